/- Part 5 of the proof of allSpacesCounted_holds: what it uses of the texts that lie in the notes, merged. -/
import Derived.Test.YtnncipcldbopgaaQA4
namespace Go.Proofs.Ytnncipcldbopgaa
set_option linter.unusedSimpArgs false
set_option linter.unusedVariables false
set_option maxHeartbeats 4000000
open Go Go.Eng
attribute [local irreducible] WD RunD PreD Runs CallOK
def spP (n : Nat) (F : Nat → Prop) (h : Hp) (u : List Value) (p : Nat × List Nat) : Prop := (∃ w, u = [.int .i64 (n : Int), w] ∧ IntsO (fun x => x = p.1) h w (toN p.2)) ∧ F p.1 ∧ p.1 < h.next
theorem spP_steady (n : Nat) : Steady (spP n) where
  mono F G h h' u p := by
    rintro ⟨⟨w, rfl, hw⟩, hF, hl⟩ hfg hk
    exact ⟨⟨w, rfl, hw.same ⟨hk.1, fun o ho hl => hk.2 o (by rw [show o = p.1 from ho]; exact hF) hl⟩⟩, hfg _ hF, Nat.lt_of_lt_of_le hl hk.1⟩
  low F h u p := by
    rintro ⟨hw, hF, hl⟩
    exact ⟨hw, ⟨hF, hl⟩, hl⟩
theorem spP.spO {n : Nat} {F : Nat → Prop} {h : Hp} {u : List Value} {p : Nat × List Nat} (hs : spP n F h u p) : spO n F h u p.2 := by
  obtain ⟨⟨w, rfl, hw⟩, hF, _⟩ := hs
  exact ⟨w, rfl, hw.sub fun o ho => by rw [show o = p.1 from ho]; exact hF⟩
theorem spP_below {n B : Nat} {h : Hp} {v : Value} {L : List (Nat × List Nat)} (hs : GL 2 (spP n) B h v L) : ∀ p ∈ L, p.1 < h.next := by
  rcases hs with ⟨rfl, _⟩ | ⟨o, ex, cs, rfl, h1, h2, h3, h4, h5⟩
  · intro p hp; cases hp
  · intro p hp
    obtain ⟨k, hk, rfl⟩ := List.getElem_of_mem hp
    exact (h5 k hk).2.2
theorem ia_one {n : Nat} {h : Hp} {v : Value} {xs : List Int} (hs : IntsA n h v xs) (hne : xs ≠ []) (hl : xs.length < 2 ^ 63) : ∃ o, n ≤ o ∧ o < h.next ∧ IntsO (fun x => x = o) h v xs := by
  rcases hs with ⟨e, _⟩ | ⟨o, ex, rfl, h1, h2, h3⟩
  · exact absurd e hne
  · exact ⟨o, h1, h2, some ⟨o, 0, none⟩, xs.length, rfl, Nat.le_refl _, hl, .inr ⟨o, 0, _, ex, rfl, rfl, h2, h3, by simp, fun k hk => by simp [List.getElem?_eq_getElem hk]⟩⟩
theorem appQ {n B o : Nat} {h0 hq h : Hp} {v w : Value} {L : List (Nat × List Nat)} {xs : List Nat} (hs : GL 2 (spP n) B hq v L) (hk : Keeps hq h) (hw : IntsO (fun x => x = o) h w (toN xs)) (ho : hq.next ≤ o ∧ o < h.next) (hl : L.length < 2 ^ 39) (hB : B ≤ hq.next) (hA : Adds h0 h) (h0n : h0.next ≤ B) :
    ∃ v' h', appendD Try.prog 43 43 v (.slice (some ⟨h.next, 0, none⟩) 1 1) (h.alloc (.cells [.int .i64 (n : Int), w] true true 2)) = some (v', h') ∧ GL 2 (spP n) B h' v' (L ++ [(o, xs)]) ∧ Adds h0 h' ∧ h.next < h'.next := by
  have k2 : Adds h (h.alloc (.cells [.int .i64 (n : Int), w] true true 2)) := (by first | exact aK | exact kK)
  obtain ⟨v', h', g1, g2, g3, g4, g5⟩ := GL.append (P := Try.prog) (t := 43) (t' := 43) (z := .agg #[.int .i64 0, .slice none 0 0]) (b := 32) (e := 26) (K := [(o, xs)]) (ys := [.int .i64 (n : Int), w]) (F := fun x => hq.next ≤ x ∧ x < h.next) (y := .slice (some ⟨h.next, 0, none⟩) 1 1) (h0 := h0) (spP_steady n)
    (hs.keep (spP_steady n) (hk.trans k2.1)) (by simp [srcV, srcW]) rfl (fun k hk' => by
      have : k = 0 := by simp at hk'; exact hk'
      subst this
      exact ⟨⟨w, rfl, hw.keep k2.1⟩, ho, by simp; omega⟩)
    (fun x hx => ⟨by omega, by simp; omega, fun hob => by have := (hs.obj hob).2; omega⟩) (by simp) (by simp) (by simp) rfl (by simp) (by decide) (by decide) (by simp) (by simp; omega) (by simp; have := hk.1; omega) (hA.trans k2) h0n
  exact ⟨v', h', g1, g2, g3, by simp at g4; omega⟩
theorem cmpP_swo : Go.Sort.SWO (Go.Proofs.ltOf fun a b : Nat × List Nat => cmpN a.2 b.2) where
  irrefl x := cmpN_swo.irrefl x.2
  trans x y z := cmpN_swo.trans x.2 y.2 z.2
  ntrans x y z := cmpN_swo.ntrans x.2 y.2 z.2
theorem spaces2_ok (h : Hp) (n : Nat) (p1 : 1 ≤ n) (p4 : n ≤ 4) :
    ∃ v' h', CallOK Try.prog 141 #[.int .i64 (n : Int)] h v' h' ∧ Adds h h' ∧ ∃ Lp : List (Nat × List Nat), GL 2 (spP n) h.next h' v' Lp ∧ Lp.map (·.2) = spacesL n ∧ (Lp.map (·.1)).Nodup := by
  refine callY_L (args := [.int .i64 (n : Int)]) 55 _ [.tmp 2] Try.func141 rfl rfl rfl ?_
  have hb16 : 2 ≤ bit n ∧ bit n ≤ 16 := ⟨bit_mono (i := 1) p1, bit_mono (j := 4) p4⟩
  have hbb : bit (bit n - 2) ≤ 16384 := bit_mono (j := 14) (by omega)
  have hbp := bit_pos (bit n - 2)
  have hu1 : IntKind.wrap .u64 (((bit n : Nat) : Int) - 2) = ((bit n - 2 : Nat) : Int) := by rw [wrapU64 _ (by omega) (by omega)]; omega
  have hu2 : IntKind.wrap .i64 (((bit n : Nat) : Int) - 1) = ((bit n - 1 : Nat) : Int) := by rw [wrap64c _ (by omega) (by omega)]; omega
  try simp (disch := first | omega | (simp; done) | fail) [wrap64c, if_pos, if_neg, opAnd, opOr, opXor, opDiff, opShr, opBit, hu1, hu2]
  refine WD_drawC 5 rfl (by kernel_rfl) ?_
  try simp (disch := first | omega | (simp; done) | fail) [wrap64c, if_pos, if_neg, opAnd, opOr, opXor, opDiff, opShr, opBit, hu1, hu2, opBitU]
  refine WD_loopC [0, 4, 15] (fun m tm h' => ∃ f u Lp, m = bit (bit n - 2) - f ∧ tm 3 = u ∧ tm 16 = .int .i64 (f : Int) ∧ (f ≤ bit (bit n - 2)) ∧ (Adds h h') ∧ (GL 2 (spP n) h.next h' u Lp) ∧ (Lp.map (·.2) = candK n f) ∧ ((Lp.map (·.1)).Nodup)) _ ⟨0, _, [], rfl, (by simp (disch := first | omega | (simp; done) | fail) [wrap64c, if_pos, if_neg, opAnd, opOr, opXor, opDiff, opShr, opBit, hu1, hu2]), (by simp (disch := first | omega | (simp; done) | fail) [wrap64c, if_pos, if_neg, opAnd, opOr, opXor, opDiff, opShr, opBit, hu1, hu2]), (by first | omega | assumption | (simp (disch := first | omega | (simp; done) | fail) [wrap64c, if_pos, if_neg, opAnd, opOr, opXor, opDiff, opShr, opBit, hu1, hu2] <;> omega)), (by first | exact aK | exact kK), (.lit (ex := true) (Nat.le_refl _) (by simp) (by simp)), (by rfl), (by simp)⟩ ?_
  rintro m tm h' hFr ⟨f, u, Lp, rfl, e3, e16, hm, ha, hu, hcm, hnd⟩
  simp only [FrameL] at hFr
  obtain ⟨f0_0, f4_0, f15_0, -⟩ := hFr
  try simp (disch := first | omega | (simp; done) | fail) [wrap64c, if_pos, if_neg, opAnd, opOr, opXor, opDiff, opShr, opBit, hu1, hu2] at f0_0 f4_0 f15_0
  have e0 := f0_0
  have e4 := f4_0
  have e15 := f15_0
  by_cases hlt : f < bit (bit n - 2)
  · have hcl := candK_len n f
    have hcs := candK_succ n f
    have hlp : Lp.length = (candK n f).length := by rw [← hcm, List.length_map]
    have hbl := spP_below hu
    rename Hp => hq
    try simp (disch := first | omega | (simp; done) | fail) [wrap64c, if_pos, if_neg, opAnd, opOr, opXor, opDiff, opShr, opBit, hu1, hu2, e0, e3, e4, e15, e16, hlt, putCells]
    first | refine WY_heap fun h1 q_h1 => ?_ | refine callG_heap fun h1 q_h1 => ?_ | refine callP_heap fun h1 q_h1 => ?_ | refine callS_heap fun h1 q_h1 => ?_ | refine RY_heap fun h1 q_h1 => ?_ | refine PY_heap fun h1 q_h1 => ?_ | refine SY_heap fun h1 q_h1 => ?_ | refine doneY_heap fun h1 q_h1 => ?_ | refine loopK_heap fun h1 q_h1 => ?_ | refine thenY_heap fun h1 q_h1 => ?_ | refine thenM_heap fun h1 q_h1 => ?_
    have k1 : Adds hq h1 := by rw [q_h1]; exact (by first | exact aK | exact kK)
    have n1 : h1.next = hq.next + 2 := by simp [q_h1]
    have gb1 : h1.get (hq.next + 1) = .cells [.int .i64 (n : Int), .slice (some ⟨hq.next, 0, none⟩) 1 1] true true 1 := by simp [q_h1]
    have gl1 : h1.get hq.next = .cells [.int .i64 0] true true 1 := by simp [q_h1]
    refine WD_loopC [0, 3, 4, 5, 6, 15, 16] (fun m tm h' => ∃ x w, m = bit n - 1 - x ∧ tm 7 = .int .i64 (x : Int) ∧ (x ≤ bit n - 1 ∧ 1 ≤ x) ∧ (Adds hq h') ∧ (IntsA hq.next h' w (toN (0 :: famS f (x - 1)))) ∧ (h'.get (hq.next + 1) = .cells [.int .i64 (n : Int), w] true true 1) ∧ (OffF (fun o => o = hq.next + 1) w) ∧ (hq.next + 1 < h'.next)) _ ⟨1, .slice (some ⟨hq.next, 0, none⟩) 1 1, rfl, (by simp (disch := first | omega | (simp; done) | fail) [wrap64c, if_pos, if_neg, opAnd, opOr, opXor, opDiff, opShr, opBit, hu1, hu2, e0, e3, e4, e15, e16, hlt]), (by first | omega | assumption | (simp (disch := first | omega | (simp; done) | fail) [wrap64c, if_pos, if_neg, opAnd, opOr, opXor, opDiff, opShr, opBit, hu1, hu2, e0, e3, e4, e15, e16, hlt] <;> omega)), k1, (.inr ⟨hq.next, true, by simp, Nat.le_refl _, by omega, by simp [gl1, toN]⟩), gb1, (.mk (by omega)), (by omega)⟩ ?_
    rintro m tm h' hFr ⟨x, w, rfl, e7, hx, ha2, hw, hg, ho, hnn⟩
    simp only [FrameL] at hFr
    obtain ⟨f0_1, f3_1, f4_1, f5_1, f6_1, f15_1, f16_1, -⟩ := hFr
    try simp (disch := first | omega | (simp; done) | fail) [wrap64c, if_pos, if_neg, opAnd, opOr, opXor, opDiff, opShr, opBit, hu1, hu2, e0, e3, e4, e15, e16, hlt] at f0_1 f3_1 f4_1 f5_1 f6_1 f15_1 f16_1
    have e0 := f0_1
    have e3 := f3_1
    have e4 := f4_1
    have e5 := f5_1
    have e6 := f6_1
    have e15 := f15_1
    have e16 := f16_1
    have hfl := famS_len f (x - 1)
    by_cases hlx : x < bit n - 1
    · have hlx' : (x : Int) < ((bit n - 1 : Nat) : Int) := by omega
      have hx1 : IntKind.wrap .i64 ((x : Int) - 1) = ((x - 1 : Nat) : Int) := by rw [wrap64c _ (by omega) (by omega)]; omega
      have hfs := famS_succ f (x - 1)
      rw [show x - 1 + 1 = x by omega] at hfs
      have h01 := nShr_and01 f (x - 1)
      have hsl := nShr_le f (x - 1)
      cases hc : f.testBit (x - 1)
      · rw [hc] at h01 hfs
        have h01 := h01
        try simp (disch := first | omega | (simp; done) | fail) [wrap64c, if_pos, if_neg, opAnd, opOr, opXor, opDiff, opShr, opBit, hu1, hu2, e0, e3, e4, e15, e16, hlt, e5, e6, e7, hg, hlx', hx1, h01]
        refine loopK_next _ ?hm ?hf ⟨x + 1, w, rfl, (by simp (disch := first | omega | (simp; done) | fail) [wrap64c, if_pos, if_neg, opAnd, opOr, opXor, opDiff, opShr, opBit, hu1, hu2, e0, e3, e4, e15, e16, hlt, e5, e6, e7, hg, hlx', hx1, h01] <;> omega), (by first | omega | assumption | (simp (disch := first | omega | (simp; done) | fail) [wrap64c, if_pos, if_neg, opAnd, opOr, opXor, opDiff, opShr, opBit, hu1, hu2, e0, e3, e4, e15, e16, hlt, e5, e6, e7, hg, hlx', hx1, h01] <;> omega)), (by first | omega | assumption | (simp (disch := first | omega | (simp; done) | fail) [wrap64c, if_pos, if_neg, opAnd, opOr, opXor, opDiff, opShr, opBit, hu1, hu2, e0, e3, e4, e15, e16, hlt, e5, e6, e7, hg, hlx', hx1, h01] <;> omega)), (by rw [show x + 1 - 1 = x by omega, hfs]; exact hw), (by first | omega | assumption | (simp (disch := first | omega | (simp; done) | fail) [wrap64c, if_pos, if_neg, opAnd, opOr, opXor, opDiff, opShr, opBit, hu1, hu2, e0, e3, e4, e15, e16, hlt, e5, e6, e7, hg, hlx', hx1, h01] <;> omega)), (by first | omega | assumption | (simp (disch := first | omega | (simp; done) | fail) [wrap64c, if_pos, if_neg, opAnd, opOr, opXor, opDiff, opShr, opBit, hu1, hu2, e0, e3, e4, e15, e16, hlt, e5, e6, e7, hg, hlx', hx1, h01] <;> omega)), (by first | omega | assumption | (simp (disch := first | omega | (simp; done) | fail) [wrap64c, if_pos, if_neg, opAnd, opOr, opXor, opDiff, opShr, opBit, hu1, hu2, e0, e3, e4, e15, e16, hlt, e5, e6, e7, hg, hlx', hx1, h01] <;> omega))⟩
        (case hm => first | omega | (simp; omega))
        (case hf => simp [FrameL, hu1, hu2, e0, e3, e4, e15, e16, hlt, e5, e6, e7, hg, hlx', hx1, h01, f0_1, f3_1, f4_1, f5_1, f6_1, f15_1, f16_1])
      · rw [hc] at h01 hfs
        have h01 := h01
        have ntw := (hw.own (by simp; omega)).nt
        have csw := (hw.own (by simp; omega)).cs
        try simp (disch := first | omega | (simp; done) | fail) [wrap64c, if_pos, if_neg, opAnd, opOr, opXor, opDiff, opShr, opBit, hu1, hu2, e0, e3, e4, e15, e16, hlt, e5, e6, e7, hg, hlx', hx1, h01, ntw, csw]
        obtain ⟨w2, h2, hap, hw2, ha3, hn3, hs3⟩ := appI3 hw (x : Int) (by simp; omega) ha2.1.1 ha2 (Nat.le_refl _)
        obtain ⟨hsm, ho2⟩ := hs3 (fun o => o = hq.next + 1) (fun o e => by omega) ho
        have gb2 : h2.get (hq.next + 1) = .cells [.int .i64 (n : Int), w] true true 1 := by rw [hsm.2 _ rfl hnn]; exact hg
        have ntw2 := (hw2.own (by simp; omega)).nt
        have csw2 := (hw2.own (by simp; omega)).cs
        try simp (disch := first | omega | (simp; done) | fail) [wrap64c, if_pos, if_neg, opAnd, opOr, opXor, opDiff, opShr, opBit, hu1, hu2, e0, e3, e4, e15, e16, hlt, e5, e6, e7, hg, hlx', hx1, h01, ntw, csw, gb2, ntw2, csw2, hap, putCells]
        refine loopK_next _ ?hm ?hf ⟨x + 1, w2, rfl, (by simp (disch := first | omega | (simp; done) | fail) [wrap64c, if_pos, if_neg, opAnd, opOr, opXor, opDiff, opShr, opBit, hu1, hu2, e0, e3, e4, e15, e16, hlt, e5, e6, e7, hg, hlx', hx1, h01, ntw, csw, gb2, ntw2, csw2] <;> omega), (by first | omega | assumption | (simp (disch := first | omega | (simp; done) | fail) [wrap64c, if_pos, if_neg, opAnd, opOr, opXor, opDiff, opShr, opBit, hu1, hu2, e0, e3, e4, e15, e16, hlt, e5, e6, e7, hg, hlx', hx1, h01, ntw, csw, gb2, ntw2, csw2] <;> omega)), (by first | exact aK | exact kK), ?c_hw, (by simp), ho2, (by simp; omega)⟩
        (case hm => first | omega | (simp; omega))
        (case hf => simp [FrameL, hu1, hu2, e0, e3, e4, e15, e16, hlt, e5, e6, e7, hg, hlx', hx1, h01, ntw, csw, gb2, ntw2, csw2, f0_1, f3_1, f4_1, f5_1, f6_1, f15_1, f16_1])
        case c_hw =>
          exact (by
            rw [show x + 1 - 1 = x by omega, hfs, if_pos rfl, show (0 :: (famS f (x - 1) ++ [x])) = (0 :: famS f (x - 1)) ++ [x] from rfl, toN_snoc]
            exact ia_putoff hw2 ho2 _)
    · have hxe : x = bit n - 1 := by omega
      have hlx' : ¬ (x : Int) < ((bit n - 1 : Nat) : Int) := by omega
      rw [show x - 1 = bit n - 2 by omega] at hw hfl
      have ntw := (hw.own (by simp; omega)).nt
      have csw := (hw.own (by simp; omega)).cs
      try simp (disch := first | omega | (simp; done) | fail) [wrap64c, if_pos, if_neg, opAnd, opOr, opXor, opDiff, opShr, opBit, hu1, hu2, e0, e3, e4, e15, e16, hlt, e5, e6, e7, hg, hlx', ntw, csw]
      obtain ⟨w2, h2, hap, hw2, ha3, hn3, hs3⟩ := appI3 hw ((bit n - 1 : Nat) : Int) (by simp; omega) ha2.1.1 ha2 (Nat.le_refl _)
      obtain ⟨hsm, ho2⟩ := hs3 (fun o => o = hq.next + 1) (fun o e => by omega) ho
      have gb2 : h2.get (hq.next + 1) = .cells [.int .i64 (n : Int), w] true true 1 := by rw [hsm.2 _ rfl hnn]; exact hg
      rw [← toN_snoc] at hw2
      have hfe : 0 :: famS f (bit n - 2) ++ [bit n - 1] = famL n f := rfl
      rw [hfe] at hw2
      have hfll := famL_len n f p1
      have ntw2 := (hw2.own (by simp; omega)).nt
      have csw2 := (hw2.own (by simp; omega)).cs
      try simp (disch := first | omega | (simp; done) | fail) [wrap64c, if_pos, if_neg, opAnd, opOr, opXor, opDiff, opShr, opBit, hu1, hu2, e0, e3, e4, e15, e16, hlt, e5, e6, e7, hg, hlx', ntw, csw, gb2, ntw2, csw2, hap, putCells]
      first | refine WY_heap fun h3 q_h3 => ?_ | refine callG_heap fun h3 q_h3 => ?_ | refine callP_heap fun h3 q_h3 => ?_ | refine callS_heap fun h3 q_h3 => ?_ | refine RY_heap fun h3 q_h3 => ?_ | refine PY_heap fun h3 q_h3 => ?_ | refine SY_heap fun h3 q_h3 => ?_ | refine doneY_heap fun h3 q_h3 => ?_ | refine loopK_heap fun h3 q_h3 => ?_ | refine thenY_heap fun h3 q_h3 => ?_ | refine thenM_heap fun h3 q_h3 => ?_
      have k3 : Adds hq h3 := by rw [q_h3]; exact (by first | exact aK | exact kK)
      have n3 : h3.next = h2.next := by simp [q_h3]
      have gb3 : h3.get (hq.next + 1) = .cells [.int .i64 (n : Int), w2] true true 1 := by simp [q_h3]
      have hw3 : IntsA hq.next h3 w2 (toN (famL n f)) := by rw [q_h3]; exact ia_putoff hw2 ho2 _
      have hO3 := hw3.own (by simp; omega)
      refine callG_c (by simp) (by simp) ?ha (isSpace_ok h3 (.agg #[.int .i64 (n : Int), w2]) n (toN (famL n f)) (.mk hO3.ints) (by simp; omega)) ?_
      (case ha => simp (disch := first | omega | (simp; done) | fail) [wrap64c, if_pos, if_neg, opAnd, opOr, opXor, opDiff, opShr, opBit, hu1, hu2, e0, e3, e4, e15, e16, hlt, e5, e6, e7, hg, hlx', ntw, csw, gb2, ntw2, csw2, gb3])
      cases hc : spB n (toN (famL n f))
      · rw [hc] at hcs
        try simp (disch := first | omega | (simp; done) | fail) [wrap64c, if_pos, if_neg, opAnd, opOr, opXor, opDiff, opShr, opBit, hu1, hu2, e0, e3, e4, e15, e16, hlt, e5, e6, e7, hg, hlx', ntw, csw, gb2, ntw2, csw2, gb3, hc]
        refine loopK_next _ ?hm ?hf ⟨f + 1, u, Lp, rfl, (by simp (disch := first | omega | (simp; done) | fail) [wrap64c, if_pos, if_neg, opAnd, opOr, opXor, opDiff, opShr, opBit, hu1, hu2, e0, e3, e4, e15, e16, hlt, e5, e6, e7, hg, hlx', ntw, csw, gb2, ntw2, csw2, gb3, hc] <;> omega), (by simp (disch := first | omega | (simp; done) | fail) [wrap64c, if_pos, if_neg, opAnd, opOr, opXor, opDiff, opShr, opBit, hu1, hu2, e0, e3, e4, e15, e16, hlt, e5, e6, e7, hg, hlx', ntw, csw, gb2, ntw2, csw2, gb3, hc] <;> omega), (by first | omega | assumption | (simp (disch := first | omega | (simp; done) | fail) [wrap64c, if_pos, if_neg, opAnd, opOr, opXor, opDiff, opShr, opBit, hu1, hu2, e0, e3, e4, e15, e16, hlt, e5, e6, e7, hg, hlx', ntw, csw, gb2, ntw2, csw2, gb3, hc] <;> omega)), (ha.trans k3), (hu.keep (spP_steady n) k3.1), (by rw [hcs, hcm]; rfl), hnd⟩
        (case hm => first | omega | (simp; omega))
        (case hf => simp [FrameL, hu1, hu2, e0, e3, e4, e15, e16, hlt, e5, e6, e7, hg, hlx', ntw, csw, gb2, ntw2, csw2, gb3, hc, f0_0, f4_0, f15_0])
      · rw [hc] at hcs
        try simp (disch := first | omega | (simp; done) | fail) [wrap64c, if_pos, if_neg, opAnd, opOr, opXor, opDiff, opShr, opBit, hu1, hu2, e0, e3, e4, e15, e16, hlt, e5, e6, e7, hg, hlx', ntw, csw, gb2, ntw2, csw2, gb3, hc]
        obtain ⟨po, hp1, hp2, hw4⟩ := ia_one hw3 (by simp [toN, famL]) (by simp; omega)
        obtain ⟨u4, h4, hap4, hu4, ha4, hn4⟩ := appQ hu k3.1 hw4 ⟨hp1, hp2⟩ (by omega) ha.1.1 (ha.trans k3) (Nat.le_refl _)
        try simp (disch := first | omega | (simp; done) | fail) [wrap64c, if_pos, if_neg, opAnd, opOr, opXor, opDiff, opShr, opBit, hu1, hu2, e0, e3, e4, e15, e16, hlt, e5, e6, e7, hg, hlx', ntw, csw, gb2, ntw2, csw2, gb3, hc, hap4]
        refine loopK_next _ ?hm ?hf ⟨f + 1, u4, Lp ++ [(po, famL n f)], rfl, (by simp (disch := first | omega | (simp; done) | fail) [wrap64c, if_pos, if_neg, opAnd, opOr, opXor, opDiff, opShr, opBit, hu1, hu2, e0, e3, e4, e15, e16, hlt, e5, e6, e7, hg, hlx', ntw, csw, gb2, ntw2, csw2, gb3, hc] <;> omega), (by simp (disch := first | omega | (simp; done) | fail) [wrap64c, if_pos, if_neg, opAnd, opOr, opXor, opDiff, opShr, opBit, hu1, hu2, e0, e3, e4, e15, e16, hlt, e5, e6, e7, hg, hlx', ntw, csw, gb2, ntw2, csw2, gb3, hc] <;> omega), (by first | omega | assumption | (simp (disch := first | omega | (simp; done) | fail) [wrap64c, if_pos, if_neg, opAnd, opOr, opXor, opDiff, opShr, opBit, hu1, hu2, e0, e3, e4, e15, e16, hlt, e5, e6, e7, hg, hlx', ntw, csw, gb2, ntw2, csw2, gb3, hc] <;> omega)), ha4, hu4, (by rw [hcs, List.map_append, hcm]; rfl), ?c_hnd⟩
        (case hm => first | omega | (simp; omega))
        (case hf => simp [FrameL, hu1, hu2, e0, e3, e4, e15, e16, hlt, e5, e6, e7, hg, hlx', ntw, csw, gb2, ntw2, csw2, gb3, hc, f0_0, f4_0, f15_0])
        case c_hnd =>
          exact (by
            rw [List.map_append, List.nodup_append]
            refine ⟨hnd, by simp, fun x hx y hy e => ?_⟩
            obtain ⟨p, hp, rfl⟩ := List.mem_map.1 hx
            have := hbl p hp
            simp at hy; omega)
  · have hfe : f = bit (bit n - 2) := by omega
    rw [hfe] at hcm
    have hcl := candK_len n (bit (bit n - 2))
    have hlp : Lp.length = (candK n (bit (bit n - 2))).length := by rw [← hcm, List.length_map]
    have hne : Lp ≠ [] := fun e => candK_ne p1 (by omega) (show candK n (bit (bit n - 2)) = [] by rw [← hcm, e]; rfl)
    try simp (disch := first | omega | (simp; done) | fail) [wrap64c, if_pos, if_neg, opAnd, opOr, opXor, opDiff, opShr, opBit, hu1, hu2, e0, e3, e4, e15, e16, hlt]
    obtain ⟨h2, hc2, hu2, hn2, ha2, hs2⟩ := sortF_ok (P := Try.prog) Go.Proofs.Srtf.lay6 (fun w => run_aggT ty_aggT_26) (fun w => run_szT ty_szT_26) (g := 142) (enters_of Try.func142 (by kernel_rfl) rfl) (spP_steady n) (R' := fun F h u p => spF n F h u p.2) (fun a b => cmpN a.2 b.2) cmpP_swo hu hne (by omega)
      (fun F o u x hs hF => spO_ro n _ F o u x.2 hs.spO hF) (fun h' F a b x y hx hy => spF_cmp n h' F a b x.2 y.2 hx hy) (fun i j hi hj h1 h2 => by
        simp only [Go.Proofs.ltOf, decide_eq_false_iff_not] at h1 h2
        exact nodup_ix (L := Lp.map (·.2)) (by rw [hcm]; exact candK_nodup p1 (Nat.le_refl _)) (by simpa using hi) (by simpa using hj) (by simpa using cmpN_total h1 h2))
    refine callG_c (by simp) (by simp) ?ha (hc2) ?_
    (case ha => simp (disch := first | omega | (simp; done) | fail) [wrap64c, if_pos, if_neg, opAnd, opOr, opXor, opDiff, opShr, opBit, hu1, hu2, e0, e3, e4, e15, e16, hlt])
    try simp (disch := first | omega | (simp; done) | fail) [wrap64c, if_pos, if_neg, opAnd, opOr, opXor, opDiff, opShr, opBit, hu1, hu2, e0, e3, e4, e15, e16, hlt]
    refine done_ret rfl ⟨ha2 _ ha (Nat.le_refl _), _, hu2, ?_, ?_⟩
    · have hmm := List.map_mergeSort (r := fun x y : Nat × List Nat => !(Go.Proofs.ltOf (fun a b : Nat × List Nat => cmpN a.2 b.2) y x)) (s := fun x y => !(Go.Proofs.ltOf cmpN y x)) (f := fun p : Nat × List Nat => p.2) (l := Lp) (fun a _ b _ => rfl)
      exact hmm.trans (by rw [hcm]; rfl)
    · exact ((List.mergeSort_perm _ _).map _).nodup_iff.2 hnd
end Go.Proofs.Ytnncipcldbopgaa
namespace Go.Proofs.Ytnncipcldbopgaa
set_option linter.unusedSimpArgs false
set_option linter.unusedVariables false
set_option maxHeartbeats 4000000
open Go Go.Eng
attribute [local irreducible] WD RunD PreD Runs CallOK
theorem famL_of {n : Nat} {xs : List Nat} (g : SpGood n xs) : ∃ m, m < 2 ^ (bit n - 2) ∧ famL n m = xs := by
  have hb : 2 ≤ bit n := bit_mono (i := 1) g.n1
  refine ⟨maskN (fun i => fam xs (i + 1)) (bit n - 2), maskN_lt _ _, srt_ext (famL_srt g.n1) g.srt fun x => ?_⟩
  simp only [famL, List.mem_cons, List.mem_append, List.not_mem_nil, or_false, mem_famS, maskN_bit]
  constructor
  · rintro (rfl | ⟨y, rfl, h1, h2⟩ | rfl)
    · exact g.zero
    · simp [h1, fam] at h2; exact h2
    · exact g.full
  · intro hx
    have hl := g.lt x hx
    by_cases h0 : x = 0
    · exact .inl h0
    · by_cases h1 : x = bit n - 1
      · exact .inr (.inr h1)
      · refine .inr (.inl ⟨x - 1, by omega, by omega, ?_⟩)
        simp only [show x - 1 < bit n - 2 by omega, decide_true, Bool.true_and]
        rw [show x - 1 + 1 = x by omega]
        simpa [fam] using hx
theorem spacesL_has {n : Nat} {xs : List Nat} (g : SpGood n xs) : xs ∈ spacesL n := spacesL_mem.2 (candK_mem.2 ⟨famL_of g, spB_of g⟩)
theorem spacesL_nodup {n : Nat} (hn : 1 ≤ n) : (spacesL n).Nodup := (List.mergeSort_perm _ _).nodup_iff.2 (candK_nodup hn (Nat.le_refl _))
noncomputable def rankR (N : Int) (X : List Int) : Int := if spB N X = true ∧ N ≤ 3 then ((spacesL N.toNat).idxOf (natsOf X) : Int) else 0
theorem idx_at {L : List (List Nat)} {x : List Nat} {j : Nat} (hn : L.Nodup) (hj : j < L.length) (h : L[j] = x) : L.idxOf x = j := by
  have hm : x ∈ L := h ▸ List.getElem_mem hj
  have h1 := List.getElem_idxOf (List.idxOf_lt_length_iff.2 hm)
  exact nodup_ix hn _ hj (by rw [h1, h])
theorem rankFn_ok (h : Hp) (q n : Nat) (b : Value) (X : List Int) (w : Value) (y : List Nat) (hg : h.get q = .cells [.int .i64 (n : Int), b] true true 1) (hq : q < h.next) (hX : Ints h b X) (hw : Ints h w (toN y)) :
    CallOK Try.prog 153 #[.agg #[.int .i64 (n : Int), w], .pointer (some ⟨q, 0, none⟩)] h (.bool (cmpL X (toN y) == 0)) h := by
  refine callY_P 8 _ [.tmp 3] Try.func153 rfl rfl rfl (by first | rfl | simp) ?_
  have hg1 := hg
  try simp (disch := first | omega | (simp; done) | fail) [wrap64c, if_pos, if_neg, opAnd, opOr, opXor, opDiff, opShr, opBit, hg1]
  first | refine WY_heap fun h0 q_h0 => ?_ | refine callG_heap fun h0 q_h0 => ?_ | refine callP_heap fun h0 q_h0 => ?_ | refine callS_heap fun h0 q_h0 => ?_ | refine RY_heap fun h0 q_h0 => ?_ | refine PY_heap fun h0 q_h0 => ?_ | refine SY_heap fun h0 q_h0 => ?_ | refine doneY_heap fun h0 q_h0 => ?_ | refine loopK_heap fun h0 q_h0 => ?_ | refine thenY_heap fun h0 q_h0 => ?_ | refine thenM_heap fun h0 q_h0 => ?_
  have k0 : Adds h h0 := by rw [q_h0]; exact (by first | exact aK | exact kK)
  have hg2 : h0.get q = .cells [.int .i64 (n : Int), b] true true 1 := by rw [k0.1.2 q hq]; exact hg
  have hg3 : h0.get h.next = .cells [.int .i64 (n : Int), w] true true 1 := by simp [q_h0]
  try simp (disch := first | omega | (simp; done) | fail) [wrap64c, if_pos, if_neg, opAnd, opOr, opXor, opDiff, opShr, opBit, hg1, hg2, hg3]
  refine callG_c (by simp) (by simp) ?ha (compare_ok h0 (.agg #[.int .i64 (n : Int), b]) (.agg #[.int .i64 (n : Int), w]) n n X (toN y) (.mk (hX.keep k0.1)) (.mk (hw.keep k0.1))) ?_
  (case ha => simp (disch := first | omega | (simp; done) | fail) [wrap64c, if_pos, if_neg, opAnd, opOr, opXor, opDiff, opShr, opBit, hg1, hg2, hg3])
  try simp (disch := first | omega | (simp; done) | fail) [wrap64c, if_pos, if_neg, opAnd, opOr, opXor, opDiff, opShr, opBit, hg1, hg2, hg3]
  exact done_ret rfl (by simp [k0.1])
theorem spIndex_ok (h : Hp) (q n m : Nat) (b v : Value) (xs : List Nat) (L : List (List Nat)) (hg : h.get q = .cells [.int .i64 (n : Int), b] true true 1) (hq : q < h.next) (hX : Ints h b (toN xs)) (hG : GL 2 (spO n) m h v L) (hn : L.Nodup) (hm : xs ∈ L) (hl : L.length < 2 ^ 40) :
    CallOK Try.prog 152 #[v, .func (.func 153) #[] #[.pointer (some ⟨q, 0, none⟩)]] h (.int .i64 (L.idxOf xs : Int)) h := by
  refine callY_P 19 _ [.tmp 4] Try.func152 rfl rfl rfl (by first | rfl | simp) ?_
  have hL := hG.lenD
  try simp (disch := first | omega | (simp; done) | fail) [wrap64c, if_pos, if_neg, opAnd, opOr, opXor, opDiff, opShr, opBit, hL]
  refine WD_loopC [0, 1, 7] (fun m tm h' => ∃ j, m = L.length - j ∧ h = h' ∧ tm 8 = .int .i64 (j : Int) ∧ (j ≤ L.length) ∧ (∀ i (hi : i < L.length), i < j → L[i] ≠ xs)) _ ⟨0, rfl, rfl, (by simp (disch := first | omega | (simp; done) | fail) [wrap64c, if_pos, if_neg, opAnd, opOr, opXor, opDiff, opShr, opBit, hL]), (by first | omega | assumption | (simp (disch := first | omega | (simp; done) | fail) [wrap64c, if_pos, if_neg, opAnd, opOr, opXor, opDiff, opShr, opBit, hL] <;> omega)), (by intro i h1 h2; omega)⟩ ?_
  rintro m tm h' hFr ⟨j, rfl, rfl, e8, hj, hx⟩
  simp only [FrameL] at hFr
  obtain ⟨f0_0, f1_0, f7_0, -⟩ := hFr
  try simp (disch := first | omega | (simp; done) | fail) [wrap64c, if_pos, if_neg, opAnd, opOr, opXor, opDiff, opShr, opBit, hL] at f0_0 f1_0 f7_0
  have e0 := f0_0
  have e1 := f1_0
  have e7 := f7_0
  by_cases hlt : j < L.length
  · obtain ⟨o, cs, ex, w, y1, y2, y3, y4, y5, y6⟩ := spG_at hG hlt
    have y1' := y1
    try simp (disch := first | omega | (simp; done) | fail) [wrap64c, if_pos, if_neg, opAnd, opOr, opXor, opDiff, opShr, opBit, hL, e0, e1, e7, e8, hlt, y1', y3, y4, y5]
    refine callG_f (fst := #[]) (cap := #[.pointer (some ⟨q, 0, none⟩)]) (by simp) (by simp) ?hf ?hk ?ha (rankFn_ok h q n b (toN xs) w L[j] hg hq hX y6.ints) ?_
    (case hf => simp (disch := first | omega | (simp; done) | fail) [wrap64c, if_pos, if_neg, opAnd, opOr, opXor, opDiff, opShr, opBit, hL, e0, e1, e7, e8, hlt, y1', y3, y4, y5]; try rfl)
    (case hk => simp (disch := first | omega | (simp; done) | fail) [wrap64c, if_pos, if_neg, opAnd, opOr, opXor, opDiff, opShr, opBit, hL, e0, e1, e7, e8, hlt, y1', y3, y4, y5])
    (case ha => simp (disch := first | omega | (simp; done) | fail) [wrap64c, if_pos, if_neg, opAnd, opOr, opXor, opDiff, opShr, opBit, hL, e0, e1, e7, e8, hlt, y1', y3, y4, y5])
    by_cases hc : L[j] = xs
    · have hz : cmpL (toN xs) (toN L[j]) = 0 := by rw [cmpL_zero, hc]
      have hi := idx_at hn hlt hc
      try simp (disch := first | omega | (simp; done) | fail) [wrap64c, if_pos, if_neg, opAnd, opOr, opXor, opDiff, opShr, opBit, hL, e0, e1, e7, e8, hlt, y1', y3, y4, y5, hz]
      exact done_ret rfl (by simp [hi])
    · have hz : (cmpL (toN xs) (toN L[j]) == 0) = false := by
        have : ¬ cmpL (toN xs) (toN L[j]) = 0 := by rw [cmpL_zero, toN_inj]; exact fun e => hc e.symm
        simp [this]
      try simp (disch := first | omega | (simp; done) | fail) [wrap64c, if_pos, if_neg, opAnd, opOr, opXor, opDiff, opShr, opBit, hL, e0, e1, e7, e8, hlt, y1', y3, y4, y5, hz]
      refine loopK_next _ ?hm ?hf ⟨j + 1, rfl, rfl, (by simp (disch := first | omega | (simp; done) | fail) [wrap64c, if_pos, if_neg, opAnd, opOr, opXor, opDiff, opShr, opBit, hL, e0, e1, e7, e8, hlt, y1', y3, y4, y5] <;> omega), (by first | omega | assumption | (simp (disch := first | omega | (simp; done) | fail) [wrap64c, if_pos, if_neg, opAnd, opOr, opXor, opDiff, opShr, opBit, hL, e0, e1, e7, e8, hlt, y1', y3, y4, y5] <;> omega)), ?c_hx⟩
      (case hm => first | omega | (simp; omega))
      (case hf => simp [FrameL, hL, e0, e1, e7, e8, hlt, y1', y3, y4, y5, f0_0, f1_0, f7_0])
      case c_hx =>
        exact (fun i h1 hi => by
          by_cases e : i = j
          · subst e; exact hc
          · exact hx i h1 (by omega))
  · obtain ⟨i, hi, e⟩ := List.mem_iff_getElem.1 hm
    exact absurd e (hx i hi (by omega))
theorem implRank_ok (h : Hp) (v : Value) (N : Int) (X : List Int) (hv : Space h v N X) (hl : X.length < 2 ^ 40) :
    CallOK Try.prog 43 #[v] h (.tuple #[.int .i64 (rankR N X), .bool (spB N X && decide (N ≤ 3))]) h := by
  by_cases c1 : spB N X = true
  case neg =>
    refine callY_P 17 _ [.tmp 2, .tmp 3] Try.func43 rfl rfl rfl (by first | rfl | simp) ?_
    obtain ⟨b, rfl, hX⟩ := hv
    have c1' : spB N X = false := by simpa using c1
    refine WD_first ?_
    try simp (disch := first | omega | (simp; done) | fail) [wrap64c, if_pos, if_neg, opAnd, opOr, opXor, opDiff, opShr, opBit, c1']
    refine stopK_heap fun h0 q_h0 => ?_
    refine stopK_go ?_
    have g_h0 : h0.get h.next = .cells [.int .i64 N, b] true true 1 := by simp [q_h0]
    have k_h0 : Adds h h0 := by rw [q_h0]; exact (by first | exact aK | exact kK)
    have n_h0 : h.next < h0.next := by simp [q_h0]; try omega
    try simp (disch := first | omega | (simp; done) | fail) [wrap64c, if_pos, if_neg, opAnd, opOr, opXor, opDiff, opShr, opBit, c1', g_h0]
    refine callG_c (by simp) (by simp) ?ha (isSpace_ok h0 (.agg #[.int .i64 N, b]) N X (.mk (hX.keep k_h0.1)) hl) ?_
    (case ha => simp (disch := first | omega | (simp; done) | fail) [wrap64c, if_pos, if_neg, opAnd, opOr, opXor, opDiff, opShr, opBit, c1', g_h0])
    try simp (disch := first | omega | (simp; done) | fail) [wrap64c, if_pos, if_neg, opAnd, opOr, opXor, opDiff, opShr, opBit, c1', g_h0]
    exact done_ret rfl (by simp [c1', rankR, k_h0.1])
  obtain ⟨n, xs, rfl, rfl, g⟩ := spB_true c1
  refine callY_P 17 _ [.tmp 2, .tmp 3] Try.func43 rfl rfl rfl (by first | rfl | simp) ?_
  obtain ⟨b, rfl, hX⟩ := hv
  have c1' := c1
  refine WD_first ?_
  try simp (disch := first | omega | (simp; done) | fail) [wrap64c, if_pos, if_neg, opAnd, opOr, opXor, opDiff, opShr, opBit, c1']
  refine stopK_heap fun h0 q_h0 => ?_
  refine stopK_go ?_
  have g_h0 : h0.get h.next = .cells [.int .i64 (n : Int), b] true true 1 := by simp [q_h0]
  have k_h0 : Adds h h0 := by rw [q_h0]; exact (by first | exact aK | exact kK)
  have n_h0 : h.next < h0.next := by simp [q_h0]; try omega
  have hX0 := hX.keep k_h0.1
  try simp (disch := first | omega | (simp; done) | fail) [wrap64c, if_pos, if_neg, opAnd, opOr, opXor, opDiff, opShr, opBit, c1', g_h0]
  refine callG_c (by simp) (by simp) ?ha (isSpace_ok h0 (.agg #[.int .i64 (n : Int), b]) n (toN xs) (.mk hX0) hl) ?_
  (case ha => simp (disch := first | omega | (simp; done) | fail) [wrap64c, if_pos, if_neg, opAnd, opOr, opXor, opDiff, opShr, opBit, c1', g_h0])
  by_cases h3 : n ≤ 3
  · have h3' : ¬ (3 < n) := by omega
    obtain ⟨u, h2, hc2, ha2, hG⟩ := spaces_ok h0 n g.n1 (by omega)
    have hg2 : h2.get h.next = .cells [.int .i64 (n : Int), b] true true 1 := by rw [ha2.1.2 _ (by omega)]; exact g_h0
    have hlL := spacesL_le g.n1 (show n ≤ 4 by omega)
    try simp (disch := first | omega | (simp; done) | fail) [wrap64c, if_pos, if_neg, opAnd, opOr, opXor, opDiff, opShr, opBit, c1', g_h0, h3']
    refine callG_c (by simp) (by simp) ?ha (hc2) ?_
    (case ha => simp (disch := first | omega | (simp; done) | fail) [wrap64c, if_pos, if_neg, opAnd, opOr, opXor, opDiff, opShr, opBit, c1', g_h0, h3'])
    try simp (disch := first | omega | (simp; done) | fail) [wrap64c, if_pos, if_neg, opAnd, opOr, opXor, opDiff, opShr, opBit, c1', g_h0, h3']
    refine callG_c (by simp) (by simp) ?ha (spIndex_ok h2 h.next n h0.next b u xs (spacesL n) hg2 (by have := ha2.1.1; omega) (hX0.keep ha2.1) hG (spacesL_nodup g.n1) (spacesL_has g) (by omega)) ?_
    (case ha => simp (disch := first | omega | (simp; done) | fail) [wrap64c, if_pos, if_neg, opAnd, opOr, opXor, opDiff, opShr, opBit, c1', g_h0, h3'])
    try simp (disch := first | omega | (simp; done) | fail) [wrap64c, if_pos, if_neg, opAnd, opOr, opXor, opDiff, opShr, opBit, c1', g_h0, h3']
    exact done_ret rfl (by simp [c1, rankR, (k_h0.trans ha2).1, show (n : Int) ≤ 3 by omega])
  · have h3' : 3 < n := by omega
    try simp (disch := first | omega | (simp; done) | fail) [wrap64c, if_pos, if_neg, opAnd, opOr, opXor, opDiff, opShr, opBit, c1', g_h0, h3']
    exact done_ret rfl (by simp [c1, rankR, k_h0.1, show ¬ (n : Int) ≤ 3 by omega])
theorem alListed_ok (h : Hp) (N : Int) : CallOK Try.prog 139 #[.int .i64 N] h (.bool (decide (1 ≤ N ∧ N ≤ 3))) h := by
  refine callY_P 5 _ [.tmp 2] Try.func139 rfl rfl rfl (by first | rfl | simp) ?_
  try simp (disch := first | omega | (simp; done) | fail) [wrap64c, if_pos, if_neg, opAnd, opOr, opXor, opDiff, opShr, opBit]
  refine callG_c (by simp) (by simp) ?ha (l1In_ok h N 1 3) ?_
  (case ha => simp (disch := first | omega | (simp; done) | fail) [wrap64c, if_pos, if_neg, opAnd, opOr, opXor, opDiff, opShr, opBit])
  try simp (disch := first | omega | (simp; done) | fail) [wrap64c, if_pos, if_neg, opAnd, opOr, opXor, opDiff, opShr, opBit]
  exact done_ret rfl (by simp)
end Go.Proofs.Ytnncipcldbopgaa
namespace Go.Proofs.Ytnncipcldbopgaa
set_option linter.unusedSimpArgs false
set_option linter.unusedVariables false
set_option maxHeartbeats 4000000
open Go Go.Eng
attribute [local irreducible] WD RunD PreD Runs CallOK
theorem GL.mapR {α β : Type} {m n : Nat} {R : (Nat → Prop) → Hp → List Value → α → Prop} {R' : (Nat → Prop) → Hp → List Value → β → Prop} {h : Hp} {v : Value} {L : List α} (f : α → β) (hs : GL m R n h v L) (hf : ∀ F u x, R F h u x → R' F h u (f x)) : GL m R' n h v (L.map f) := by
  rcases hs with ⟨rfl, rfl⟩ | ⟨o, ex, cs, rfl, h1, h2, h3, h4, h5⟩
  · exact .inl ⟨rfl, rfl⟩
  · exact .inr ⟨o, ex, cs, by simp, h1, h2, h3, by simpa using h4, fun k hk => by
      rw [List.getElem_map]; exact hf _ _ _ (h5 k (by simpa using hk))⟩
def spQ (F : Nat → Prop) (h : Hp) (u : List Value) (q : Int × Nat × List Int) : Prop := (∃ w, u = [.int .i64 q.1, w] ∧ IntsO (fun x => x = q.2.1) h w q.2.2) ∧ F q.2.1 ∧ q.2.1 < h.next
def mkS : Int → List (Int × Nat × List Int) → List (Int × Nat × List Int)
  | _, [] => []
  | k, q :: L => (k, q.2.1, mkL (k + 1) q.2.2.length) :: mkS (k + 1 + q.2.2.length) L
def totS : List (Int × Nat × List Int) → Nat
  | [] => 0
  | q :: L => 1 + q.2.2.length + totS L
noncomputable def allR (N : Int) : List (List Nat) := if 1 ≤ N ∧ N ≤ 3 then spacesL N.toNat else []
theorem allR_len (N : Int) : (allR N).length ≤ 16384 := by
  unfold allR
  split
  · rename_i h; exact spacesL_le (by omega) (by omega)
  · simp
theorem implAll_ok (h : Hp) (N : Int) :
    ∃ v' h', CallOK Try.prog 33 #[.int .i64 N] h v' h' ∧ Adds h h' ∧ ∃ u, v' = .tuple #[u, .bool (decide (1 ≤ N ∧ N ≤ 3))] ∧ ∃ Lp : List (Nat × List Nat), GL 2 (spP N.toNat) h.next h' u Lp ∧ Lp.map (·.2) = allR N ∧ (Lp.map (·.1)).Nodup := by
  by_cases c1 : 1 ≤ N ∧ N ≤ 3
  · obtain ⟨n, rfl⟩ := Int.eq_ofNat_of_zero_le (show 0 ≤ N by omega)
    refine callY_L (args := [.int .i64 ((n : Nat) : Int)]) 9 _ [.tmp 2, .tmp 3] Try.func33 rfl rfl rfl ?_
    have hd : decide (1 ≤ (n : Int) ∧ (n : Int) ≤ 3) = true := by simpa using c1
    try simp (disch := first | omega | (simp; done) | fail) [wrap64c, if_pos, if_neg, opAnd, opOr, opXor, opDiff, opShr, opBit, hd]
    refine callG_c (by simp) (by simp) ?ha (within_ok h n 1 3) ?_
    (case ha => simp (disch := first | omega | (simp; done) | fail) [wrap64c, if_pos, if_neg, opAnd, opOr, opXor, opDiff, opShr, opBit, hd])
    try simp (disch := first | omega | (simp; done) | fail) [wrap64c, if_pos, if_neg, opAnd, opOr, opXor, opDiff, opShr, opBit, hd]
    obtain ⟨v', h', hc, ha, Lp, hG, hm, hn⟩ := spaces2_ok h n (by omega) (by omega)
    refine callG_c (by simp) (by simp) ?ha (hc) ?_
    (case ha => simp (disch := first | omega | (simp; done) | fail) [wrap64c, if_pos, if_neg, opAnd, opOr, opXor, opDiff, opShr, opBit, hd])
    try simp (disch := first | omega | (simp; done) | fail) [wrap64c, if_pos, if_neg, opAnd, opOr, opXor, opDiff, opShr, opBit, hd]
    exact done_ret rfl ⟨ha, v', by simp [hd], Lp, hG, by rw [hm, allR, if_pos c1]; rfl, hn⟩
  · refine callY_L (args := [.int .i64 N]) 9 _ [.tmp 2, .tmp 3] Try.func33 rfl rfl rfl ?_
    have hd : decide (1 ≤ N ∧ N ≤ 3) = false := by simpa using c1
    try simp (disch := first | omega | (simp; done) | fail) [wrap64c, if_pos, if_neg, opAnd, opOr, opXor, opDiff, opShr, opBit, hd]
    refine callG_c (by simp) (by simp) ?ha (within_ok h N 1 3) ?_
    (case ha => simp (disch := first | omega | (simp; done) | fail) [wrap64c, if_pos, if_neg, opAnd, opOr, opXor, opDiff, opShr, opBit, hd])
    try simp (disch := first | omega | (simp; done) | fail) [wrap64c, if_pos, if_neg, opAnd, opOr, opXor, opDiff, opShr, opBit, hd]
    exact done_ret rfl ⟨adds_self _, .slice none 0 0, by simp [hd], [], .nil _ _, by rw [allR, if_neg c1]; rfl, by simp⟩
theorem specAll_ok (h : Hp) (N : Int) :
    ∃ v' h', CallOK Try.prog 34 #[.int .i64 N] h v' h' ∧ Adds h h' ∧ ∃ u, v' = .tuple #[u, .bool (decide (1 ≤ N ∧ N ≤ 3))] ∧ GL 2 (spO N.toNat) h.next h' u (allR N) := by
  by_cases c1 : 1 ≤ N ∧ N ≤ 3
  · obtain ⟨n, rfl⟩ := Int.eq_ofNat_of_zero_le (show 0 ≤ N by omega)
    refine callY_L (args := [.int .i64 ((n : Nat) : Int)]) 9 _ [.tmp 2, .tmp 3] Try.func34 rfl rfl rfl ?_
    have hd : decide (1 ≤ (n : Int) ∧ (n : Int) ≤ 3) = true := by simpa using c1
    try simp (disch := first | omega | (simp; done) | fail) [wrap64c, if_pos, if_neg, opAnd, opOr, opXor, opDiff, opShr, opBit, hd]
    refine callG_c (by simp) (by simp) ?ha (alListed_ok h n) ?_
    (case ha => simp (disch := first | omega | (simp; done) | fail) [wrap64c, if_pos, if_neg, opAnd, opOr, opXor, opDiff, opShr, opBit, hd])
    try simp (disch := first | omega | (simp; done) | fail) [wrap64c, if_pos, if_neg, opAnd, opOr, opXor, opDiff, opShr, opBit, hd]
    obtain ⟨v', h', hc, ha, hG⟩ := alSpaces_ok h n (by omega) (by omega)
    refine callG_c (by simp) (by simp) ?ha (hc) ?_
    (case ha => simp (disch := first | omega | (simp; done) | fail) [wrap64c, if_pos, if_neg, opAnd, opOr, opXor, opDiff, opShr, opBit, hd])
    try simp (disch := first | omega | (simp; done) | fail) [wrap64c, if_pos, if_neg, opAnd, opOr, opXor, opDiff, opShr, opBit, hd]
    exact done_ret rfl ⟨ha, v', by simp [hd], by rw [allR, if_pos c1]; exact hG⟩
  · refine callY_L (args := [.int .i64 N]) 9 _ [.tmp 2, .tmp 3] Try.func34 rfl rfl rfl ?_
    have hd : decide (1 ≤ N ∧ N ≤ 3) = false := by simpa using c1
    try simp (disch := first | omega | (simp; done) | fail) [wrap64c, if_pos, if_neg, opAnd, opOr, opXor, opDiff, opShr, opBit, hd]
    refine callG_c (by simp) (by simp) ?ha (alListed_ok h N) ?_
    (case ha => simp (disch := first | omega | (simp; done) | fail) [wrap64c, if_pos, if_neg, opAnd, opOr, opXor, opDiff, opShr, opBit, hd])
    try simp (disch := first | omega | (simp; done) | fail) [wrap64c, if_pos, if_neg, opAnd, opOr, opXor, opDiff, opShr, opBit, hd]
    exact done_ret rfl ⟨adds_self _, .slice none 0 0, by simp [hd], by rw [allR, if_neg c1]; exact .nil _ _⟩
end Go.Proofs.Ytnncipcldbopgaa
namespace Go.Proofs.Ytnncipcldbopgaa
set_option linter.unusedSimpArgs false
set_option linter.unusedVariables false
set_option maxHeartbeats 4000000
open Go Go.Eng
attribute [local irreducible] WD RunD PreD Runs CallOK
noncomputable def atB (N r : Int) : Bool := decide (1 ≤ N ∧ N ≤ 3) && decide (0 ≤ r ∧ r ≤ ((spacesL N.toNat).length : Int) - 1)
noncomputable def atN (N r : Int) : Int := if atB N r = true then N else 0
noncomputable def atX (N r : Int) : List Int := if atB N r = true then toN ((spacesL N.toNat).getD r.toNat []) else []
theorem atAll_ok (h : Hp) (n : Nat) (p1 : 1 ≤ n) (p3 : n ≤ 3) : ∃ v' h', CallOK Try.prog 33 #[.int .i64 (n : Int)] h v' h' ∧ Adds h h' ∧ ∃ u, v' = .tuple #[u, .bool true] ∧ GL 2 (spO n) h.next h' u (spacesL n) := by
  have hcc : (decide (1 ≤ (n : Int) ∧ (n : Int) ≤ 3)) = true := decide_eq_true (by omega)
  refine callY_L (args := [.int .i64 (n : Int)]) 9 _ [.tmp 2, .tmp 3] Try.func33 rfl rfl rfl ?_
  have hc := hcc
  try simp (disch := first | omega | (simp; done) | fail) [wrap64c, if_pos, if_neg, opAnd, opOr, opXor, opDiff, opShr, opBit, hc]
  refine callG_c (by simp) (by simp) ?ha (within_ok h n 1 3) ?_
  (case ha => simp (disch := first | omega | (simp; done) | fail) [wrap64c, if_pos, if_neg, opAnd, opOr, opXor, opDiff, opShr, opBit, hc])
  obtain ⟨u, h2, hc2, ha2, hG⟩ := spaces_ok h n p1 (by omega)
  try simp (disch := first | omega | (simp; done) | fail) [wrap64c, if_pos, if_neg, opAnd, opOr, opXor, opDiff, opShr, opBit, hc]
  refine callG_c (by simp) (by simp) ?ha (hc2) ?_
  (case ha => simp (disch := first | omega | (simp; done) | fail) [wrap64c, if_pos, if_neg, opAnd, opOr, opXor, opDiff, opShr, opBit, hc])
  try simp (disch := first | omega | (simp; done) | fail) [wrap64c, if_pos, if_neg, opAnd, opOr, opXor, opDiff, opShr, opBit, hc]
  exact done_ret rfl ⟨ha2, u, rfl, hG⟩
theorem atAllNo_ok (h : Hp) (N : Int) (hc0 : ¬ (1 ≤ N ∧ N ≤ 3)) : CallOK Try.prog 33 #[.int .i64 N] h (.tuple #[.slice none 0 0, .bool false]) h := by
  have hcc : (decide (1 ≤ N ∧ N ≤ 3)) = false := decide_eq_false hc0
  refine callY_P 9 _ [.tmp 2, .tmp 3] Try.func33 rfl rfl rfl (by first | rfl | simp) ?_
  have hc := hcc
  have hc0 := hc0
  try simp (disch := first | omega | (simp; done) | fail) [wrap64c, if_pos, if_neg, opAnd, opOr, opXor, opDiff, opShr, opBit, hc, hc0]
  refine callG_c (by simp) (by simp) ?ha (within_ok h N 1 3) ?_
  (case ha => simp (disch := first | omega | (simp; done) | fail) [wrap64c, if_pos, if_neg, opAnd, opOr, opXor, opDiff, opShr, opBit, hc, hc0])
  try simp (disch := first | omega | (simp; done) | fail) [wrap64c, if_pos, if_neg, opAnd, opOr, opXor, opDiff, opShr, opBit, hc, hc0]
  exact done_ret rfl (by simp)
theorem implAt_ok (h : Hp) (N r : Int) :
    ∃ v' h', CallOK Try.prog 29 #[.int .i64 N, .int .i64 r] h v' h' ∧ Adds h h' ∧ ∃ u, v' = .tuple #[u, .bool (atB N r)] ∧ SpaceO (Btw h.next h'.next) h' u (atN N r) (atX N r) := by
  by_cases hc : 1 ≤ N ∧ N ≤ 3
  case neg =>
    have hat : atB N r = false := by unfold atB; rw [decide_eq_false hc]; rfl
    refine callY_L (args := [.int .i64 N, .int .i64 r]) 28 _ [.cell 4 26, .tmp 5] Try.func29 rfl rfl rfl ?_
    try simp (disch := first | omega | (simp; done) | fail) [wrap64c, if_pos, if_neg, opAnd, opOr, opXor, opDiff, opShr, opBit]
    first | refine WY_heap fun h0 q_h0 => ?_ | refine callG_heap fun h0 q_h0 => ?_ | refine callP_heap fun h0 q_h0 => ?_ | refine callS_heap fun h0 q_h0 => ?_ | refine RY_heap fun h0 q_h0 => ?_ | refine PY_heap fun h0 q_h0 => ?_ | refine SY_heap fun h0 q_h0 => ?_ | refine doneY_heap fun h0 q_h0 => ?_ | refine loopK_heap fun h0 q_h0 => ?_ | refine thenY_heap fun h0 q_h0 => ?_ | refine thenM_heap fun h0 q_h0 => ?_
    have k0 : Adds h h0 := by rw [q_h0]; exact (by first | exact aK | exact kK)
    have gr0 : h0.get h.next = .cells [.int .i64 0, .slice none 0 0] true true 1 := by simp [q_h0]
    refine callG_c (by simp) (by simp) ?ha (atAllNo_ok h0 N hc) ?_
    (case ha => simp (disch := first | omega | (simp; done) | fail) [wrap64c, if_pos, if_neg, opAnd, opOr, opXor, opDiff, opShr, opBit, gr0])
    try simp (disch := first | omega | (simp; done) | fail) [wrap64c, if_pos, if_neg, opAnd, opOr, opXor, opDiff, opShr, opBit, gr0, putCells]
    refine done_ret (by simp [putCells]; rfl) ⟨(by first | exact aK | exact kK), .agg #[.int .i64 0, .slice none 0 0], by simp [hat], ?_⟩
    rw [atN, atX, if_neg (by simp [hat]), if_neg (by simp [hat])]
    exact .nil _ _
  obtain ⟨n, rfl⟩ := Int.eq_ofNat_of_zero_le (show 0 ≤ N by omega)
  have hcc : (decide (1 ≤ (n : Int) ∧ (n : Int) ≤ 3)) = true := decide_eq_true hc
  refine callY_L (args := [.int .i64 (n : Int), .int .i64 r]) 28 _ [.cell 4 26, .tmp 5] Try.func29 rfl rfl rfl ?_
  try simp (disch := first | omega | (simp; done) | fail) [wrap64c, if_pos, if_neg, opAnd, opOr, opXor, opDiff, opShr, opBit]
  first | refine WY_heap fun h0 q_h0 => ?_ | refine callG_heap fun h0 q_h0 => ?_ | refine callP_heap fun h0 q_h0 => ?_ | refine callS_heap fun h0 q_h0 => ?_ | refine RY_heap fun h0 q_h0 => ?_ | refine PY_heap fun h0 q_h0 => ?_ | refine SY_heap fun h0 q_h0 => ?_ | refine doneY_heap fun h0 q_h0 => ?_ | refine loopK_heap fun h0 q_h0 => ?_ | refine thenY_heap fun h0 q_h0 => ?_ | refine thenM_heap fun h0 q_h0 => ?_
  have k0 : Adds h h0 := by rw [q_h0]; exact (by first | exact aK | exact kK)
  have n0 : h0.next = h.next + 1 := by simp [q_h0]
  have gr0 : h0.get h.next = .cells [.int .i64 0, .slice none 0 0] true true 1 := by simp [q_h0]
  obtain ⟨_, h2, hc2, ha2, u, rfl, hG⟩ := atAll_ok h0 n (by omega) (by omega)
  refine callG_c (by simp) (by simp) ?ha (hc2) ?_
  (case ha => simp (disch := first | omega | (simp; done) | fail) [wrap64c, if_pos, if_neg, opAnd, opOr, opXor, opDiff, opShr, opBit])
  obtain ⟨L, hLe0⟩ : ∃ L, spacesL (n : Int).toNat = L := ⟨_, rfl⟩
  have hLl : L.length ≤ 16384 := by rw [← hLe0]; exact spacesL_le (by omega) (by omega)
  rw [show spacesL n = L by rw [← hLe0, Int.toNat_natCast]] at hG
  have hL := hG.lenD
  have A2 := k0.trans ha2
  have nn2 := ha2.1.1
  have gr2 : h2.get h.next = .cells [.int .i64 0, .slice none 0 0] true true 1 := by rw [ha2.1.2 _ (by omega)]; exact gr0
  by_cases hr : 0 ≤ r ∧ r ≤ (L.length : Int) - 1
  · have hrc : (decide (0 ≤ r ∧ r ≤ (L.length : Int) - 1)) = true := decide_eq_true hr
    have hrn := hr
    obtain ⟨k, hk⟩ : ∃ k : Nat, r = (k : Int) := Int.eq_ofNat_of_zero_le hr.1
    have hkr := hk
    have hkl : k < L.length := by omega
    have hrc2 : (decide (0 ≤ (k : Int) ∧ (k : Int) ≤ (L.length : Int) - 1)) = true := decide_eq_true (by omega)
    have hrc3 : (k : Int) ≤ (L.length : Int) - 1 := by omega
    obtain ⟨o, cs, ex, w, y1, y2, y3, y4, y5, y6⟩ := spG_at hG hkl
    have y1' := y1
    have ntw := y6.nt
    have csw := y6.cs
    try simp (disch := first | omega | (simp; done) | fail) [wrap64c, if_pos, if_neg, opAnd, opOr, opXor, opDiff, opShr, opBit, hL, gr2, hrc, hkr, hkl, hrc2, hrc3, y1', y3, y4, y5, ntw, csw]
    refine callG_c (by simp) (by simp) ?ha (within_ok h2 r 0 ((L.length : Int) - 1)) ?_
    (case ha => simp (disch := first | omega | (simp; done) | fail) [wrap64c, if_pos, if_neg, opAnd, opOr, opXor, opDiff, opShr, opBit, hL, gr2, hrc, hkr, hkl, hrc2, hrc3, y1', y3, y4, y5, ntw, csw])
    try simp (disch := first | omega | (simp; done) | fail) [wrap64c, if_pos, if_neg, opAnd, opOr, opXor, opDiff, opShr, opBit, hL, gr2, hrc, hkr, hkl, hrc2, hrc3, y1', y3, y4, y5, ntw, csw, putCells]
    have hat : atB n r = true := by
      unfold atB
      rw [hcc, hLe0, hrc]; rfl
    have hat2 : atB n (k : Int) = true := hk ▸ hat
    refine done_ret (by simp [putCells]; rfl) ⟨(by first | exact aK | exact kK), .agg #[.int .i64 (n : Int), w], by simp [hat, hat2, hk], w, by rw [atN, if_pos hat], ?_⟩
    rw [atX, if_pos hat, hLe0, hk, Int.toNat_natCast, List.getD_eq_getElem?_getD, List.getElem?_eq_getElem hkl]
    exact ((intsO_low y6).same (Same.put (Same.refl _ _) (by omega) _)).sub fun x hx => ⟨by omega, by simpa using hx.2⟩
  · have hrc : (decide (0 ≤ r ∧ r ≤ (L.length : Int) - 1)) = false := decide_eq_false hr
    try simp (disch := first | omega | (simp; done) | fail) [wrap64c, if_pos, if_neg, opAnd, opOr, opXor, opDiff, opShr, opBit, hL, gr2, hrc, hr]
    refine callG_c (by simp) (by simp) ?ha (within_ok h2 r 0 ((L.length : Int) - 1)) ?_
    (case ha => simp (disch := first | omega | (simp; done) | fail) [wrap64c, if_pos, if_neg, opAnd, opOr, opXor, opDiff, opShr, opBit, hL, gr2, hrc, hr])
    try simp (disch := first | omega | (simp; done) | fail) [wrap64c, if_pos, if_neg, opAnd, opOr, opXor, opDiff, opShr, opBit, hL, gr2, hrc, hr, putCells]
    have hat : atB n r = false := by
      unfold atB
      rw [hcc, hLe0, hrc]; rfl
    refine done_ret (by simp [putCells]; rfl) ⟨(by first | exact aK | exact kK), .agg #[.int .i64 0, .slice none 0 0], by simp [hat], ?_⟩
    rw [atN, atX, if_neg (by simp [hat]), if_neg (by simp [hat])]
    exact .nil _ _
theorem specAt_ok (h : Hp) (N r : Int) :
    ∃ v' h', CallOK Try.prog 30 #[.int .i64 N, .int .i64 r] h v' h' ∧ Adds h h' ∧ ∃ u, v' = .tuple #[u, .bool (atB N r)] ∧ SpaceO (Btw h.next h'.next) h' u (atN N r) (atX N r) := by
  by_cases hc : 1 ≤ N ∧ N ≤ 3
  case neg =>
    have hat : atB N r = false := by unfold atB; rw [decide_eq_false hc]; rfl
    have hcc : (decide (1 ≤ N ∧ N ≤ 3)) = false := decide_eq_false hc
    refine callY_L (args := [.int .i64 N, .int .i64 r]) 24 _ [.cell 4 26, .tmp 5] Try.func30 rfl rfl rfl ?_
    have hcc1 := hcc
    try simp (disch := first | omega | (simp; done) | fail) [wrap64c, if_pos, if_neg, opAnd, opOr, opXor, opDiff, opShr, opBit, hcc1, hc]
    first | refine WY_heap fun h0 q_h0 => ?_ | refine callG_heap fun h0 q_h0 => ?_ | refine callP_heap fun h0 q_h0 => ?_ | refine callS_heap fun h0 q_h0 => ?_ | refine RY_heap fun h0 q_h0 => ?_ | refine PY_heap fun h0 q_h0 => ?_ | refine SY_heap fun h0 q_h0 => ?_ | refine doneY_heap fun h0 q_h0 => ?_ | refine loopK_heap fun h0 q_h0 => ?_ | refine thenY_heap fun h0 q_h0 => ?_ | refine thenM_heap fun h0 q_h0 => ?_
    have k0 : Adds h h0 := by rw [q_h0]; exact (by first | exact aK | exact kK)
    have gr0 : h0.get h.next = .cells [.int .i64 0, .slice none 0 0] true true 1 := by simp [q_h0]
    refine callG_c (by simp) (by simp) ?ha (alListed_ok h0 N) ?_
    (case ha => simp (disch := first | omega | (simp; done) | fail) [wrap64c, if_pos, if_neg, opAnd, opOr, opXor, opDiff, opShr, opBit, hcc1, hc, gr0])
    try simp (disch := first | omega | (simp; done) | fail) [wrap64c, if_pos, if_neg, opAnd, opOr, opXor, opDiff, opShr, opBit, hcc1, hc, gr0, putCells]
    refine done_ret (by simp [putCells]; rfl) ⟨(by first | exact aK | exact kK), .agg #[.int .i64 0, .slice none 0 0], by simp [hat], ?_⟩
    rw [atN, atX, if_neg (by simp [hat]), if_neg (by simp [hat])]
    exact .nil _ _
  obtain ⟨n, rfl⟩ := Int.eq_ofNat_of_zero_le (show 0 ≤ N by omega)
  have hcc : (decide (1 ≤ (n : Int) ∧ (n : Int) ≤ 3)) = true := decide_eq_true hc
  refine callY_L (args := [.int .i64 (n : Int), .int .i64 r]) 24 _ [.cell 4 26, .tmp 5] Try.func30 rfl rfl rfl ?_
  have hcc1 := hcc
  try simp (disch := first | omega | (simp; done) | fail) [wrap64c, if_pos, if_neg, opAnd, opOr, opXor, opDiff, opShr, opBit, hcc1]
  first | refine WY_heap fun h0 q_h0 => ?_ | refine callG_heap fun h0 q_h0 => ?_ | refine callP_heap fun h0 q_h0 => ?_ | refine callS_heap fun h0 q_h0 => ?_ | refine RY_heap fun h0 q_h0 => ?_ | refine PY_heap fun h0 q_h0 => ?_ | refine SY_heap fun h0 q_h0 => ?_ | refine doneY_heap fun h0 q_h0 => ?_ | refine loopK_heap fun h0 q_h0 => ?_ | refine thenY_heap fun h0 q_h0 => ?_ | refine thenM_heap fun h0 q_h0 => ?_
  have k0 : Adds h h0 := by rw [q_h0]; exact (by first | exact aK | exact kK)
  have n0 : h0.next = h.next + 1 := by simp [q_h0]
  have gr0 : h0.get h.next = .cells [.int .i64 0, .slice none 0 0] true true 1 := by simp [q_h0]
  refine callG_c (by simp) (by simp) ?ha (alListed_ok h0 n) ?_
  (case ha => simp (disch := first | omega | (simp; done) | fail) [wrap64c, if_pos, if_neg, opAnd, opOr, opXor, opDiff, opShr, opBit, hcc1])
  obtain ⟨u, h2, hc2, ha2, hG⟩ := alSpaces_ok h0 n (by omega) (by omega)
  try simp (disch := first | omega | (simp; done) | fail) [wrap64c, if_pos, if_neg, opAnd, opOr, opXor, opDiff, opShr, opBit, hcc1]
  refine callG_c (by simp) (by simp) ?ha (hc2) ?_
  (case ha => simp (disch := first | omega | (simp; done) | fail) [wrap64c, if_pos, if_neg, opAnd, opOr, opXor, opDiff, opShr, opBit, hcc1])
  obtain ⟨L, hLe0⟩ : ∃ L, spacesL (n : Int).toNat = L := ⟨_, rfl⟩
  have hLl : L.length ≤ 16384 := by rw [← hLe0]; exact spacesL_le (by omega) (by omega)
  rw [show spacesL n = L by rw [← hLe0, Int.toNat_natCast]] at hG
  have hL := hG.lenD
  have A2 := k0.trans ha2
  have nn2 := ha2.1.1
  have gr2 : h2.get h.next = .cells [.int .i64 0, .slice none 0 0] true true 1 := by rw [ha2.1.2 _ (by omega)]; exact gr0
  by_cases hr : 0 ≤ r ∧ r ≤ (L.length : Int) - 1
  · have hrc : (decide (0 ≤ r ∧ r ≤ (L.length : Int) - 1)) = true := decide_eq_true hr
    have hrn := hr
    obtain ⟨k, hk⟩ : ∃ k : Nat, r = (k : Int) := Int.eq_ofNat_of_zero_le hr.1
    have hkr := hk
    have hkl : k < L.length := by omega
    have hrc2 : (decide (0 ≤ (k : Int) ∧ (k : Int) ≤ (L.length : Int) - 1)) = true := decide_eq_true (by omega)
    have hrc3 : (k : Int) ≤ (L.length : Int) - 1 := by omega
    obtain ⟨o, cs, ex, w, y1, y2, y3, y4, y5, y6⟩ := spG_at hG hkl
    have y1' := y1
    have ntw := y6.nt
    have csw := y6.cs
    try simp (disch := first | omega | (simp; done) | fail) [wrap64c, if_pos, if_neg, opAnd, opOr, opXor, opDiff, opShr, opBit, hcc1, hL, gr2, hrc, hkr, hkl, hrc2, hrc3, y1', y3, y4, y5, ntw, csw]
    refine callG_c (by simp) (by simp) ?ha (l1In_ok h2 r 0 ((L.length : Int) - 1)) ?_
    (case ha => simp (disch := first | omega | (simp; done) | fail) [wrap64c, if_pos, if_neg, opAnd, opOr, opXor, opDiff, opShr, opBit, hcc1, hL, gr2, hrc, hkr, hkl, hrc2, hrc3, y1', y3, y4, y5, ntw, csw])
    try simp (disch := first | omega | (simp; done) | fail) [wrap64c, if_pos, if_neg, opAnd, opOr, opXor, opDiff, opShr, opBit, hcc1, hL, gr2, hrc, hkr, hkl, hrc2, hrc3, y1', y3, y4, y5, ntw, csw, putCells]
    have hat : atB n r = true := by
      unfold atB
      rw [hcc, hLe0, hrc]; rfl
    have hat2 : atB n (k : Int) = true := hk ▸ hat
    refine done_ret (by simp [putCells]; rfl) ⟨(by first | exact aK | exact kK), .agg #[.int .i64 (n : Int), w], by simp [hat, hat2, hk], w, by rw [atN, if_pos hat], ?_⟩
    rw [atX, if_pos hat, hLe0, hk, Int.toNat_natCast, List.getD_eq_getElem?_getD, List.getElem?_eq_getElem hkl]
    exact ((intsO_low y6).same (Same.put (Same.refl _ _) (by omega) _)).sub fun x hx => ⟨by omega, by simpa using hx.2⟩
  · have hrc : (decide (0 ≤ r ∧ r ≤ (L.length : Int) - 1)) = false := decide_eq_false hr
    try simp (disch := first | omega | (simp; done) | fail) [wrap64c, if_pos, if_neg, opAnd, opOr, opXor, opDiff, opShr, opBit, hcc1, hL, gr2, hrc, hr]
    refine callG_c (by simp) (by simp) ?ha (l1In_ok h2 r 0 ((L.length : Int) - 1)) ?_
    (case ha => simp (disch := first | omega | (simp; done) | fail) [wrap64c, if_pos, if_neg, opAnd, opOr, opXor, opDiff, opShr, opBit, hcc1, hL, gr2, hrc, hr])
    try simp (disch := first | omega | (simp; done) | fail) [wrap64c, if_pos, if_neg, opAnd, opOr, opXor, opDiff, opShr, opBit, hcc1, hL, gr2, hrc, hr, putCells]
    have hat : atB n r = false := by
      unfold atB
      rw [hcc, hLe0, hrc]; rfl
    refine done_ret (by simp [putCells]; rfl) ⟨(by first | exact aK | exact kK), .agg #[.int .i64 0, .slice none 0 0], by simp [hat], ?_⟩
    rw [atN, atX, if_neg (by simp [hat]), if_neg (by simp [hat])]
    exact .nil _ _
end Go.Proofs.Ytnncipcldbopgaa
namespace Go.Proofs.Ytnncipcldbopgaa
set_option linter.unusedSimpArgs false
set_option linter.unusedVariables false
set_option maxHeartbeats 4000000
open Go Go.Eng
theorem spGood_iff (n : Nat) (xs : List Nat) : ((1 ≤ n ∧ n ≤ 7 ∧ xs.Pairwise (· < ·)) ∧ (∀ x ∈ xs, x < bit n) ∧ (0 ∈ xs ∧ bit n - 1 ∈ xs) ∧ (∀ x ∈ xs, x ≠ 0 → innerN (fam xs) x ≠ 0) ∧ ∀ x ∈ xs, ∀ y ∈ xs, nOr x y ∈ xs) ↔ SpGood n xs :=
  ⟨fun ⟨⟨a, b, c⟩, d, ⟨e, f⟩, g, h⟩ => ⟨a, b, c, d, e, f, g, h⟩, fun g => ⟨⟨g.n1, g.n7, g.srt⟩, g.lt, ⟨g.zero, g.full⟩, g.inn, g.uni⟩⟩
def goodC (n : Nat) (xs : List Nat) : Bool := decide ((1 ≤ n ∧ n ≤ 7 ∧ xs.Pairwise (· < ·)) ∧ (∀ x ∈ xs, x < bit n) ∧ (0 ∈ xs ∧ bit n - 1 ∈ xs) ∧ (∀ x ∈ xs, x ≠ 0 → innerN (fam xs) x ≠ 0) ∧ ∀ x ∈ xs, ∀ y ∈ xs, nOr x y ∈ xs)
theorem spB_goodC (n : Nat) (xs : List Nat) : spB n (toN xs) = goodC n xs := by
  rw [Bool.eq_iff_iff]
  constructor
  · intro h
    obtain ⟨m, ys, h1, h2, g⟩ := spB_true h
    have e1 : n = m := by omega
    have e2 : xs = ys := toN_inj.1 h2
    subst e1 e2
    exact decide_eq_true ((spGood_iff _ _).2 g)
  · intro h
    exact spB_of ((spGood_iff _ _).1 (of_decide_eq_true h))
def candC (n : Nat) : List (List Nat) := ((List.range (2 ^ (bit n - 2))).map (famL n)).filter (goodC n)
theorem candK_C (n : Nat) : candK n (2 ^ (bit n - 2)) = candC n := by
  unfold candK candC
  exact List.filter_congr fun xs _ => spB_goodC n xs
def chkN (n f : Nat) : Bool := (candC n).all (fun x => decide (0 < keptN n x) && decide (f % keptN n x = 0)) && decide (((candC n).map (keptN n)).sum = ((candC n).filter fun x => decide (leastN n x = x)).length * f)
theorem chk1 : chkN 1 1 = true := by decide +kernel
theorem chk2 : chkN 2 2 = true := by decide +kernel
theorem chk3 : chkN 3 6 = true := by decide +kernel
def facN : Nat → Nat
  | 0 => 1
  | n + 1 => (n + 1) * facN n
theorem chk_all {n : Nat} (h1 : 1 ≤ n) (h3 : n ≤ 3) : chkN n (facN n) = true := by
  match n, h1, h3 with
  | 1, _, _ => exact chk1
  | 2, _, _ => exact chk2
  | 3, _, _ => exact chk3
theorem kept_div {n : Nat} (h1 : 1 ≤ n) (h3 : n ≤ 3) {x : List Nat} (hx : x ∈ spacesL n) : 0 < keptN n x ∧ facN n % keptN n x = 0 := by
  have h := chk_all h1 h3
  simp only [chkN, Bool.and_eq_true, List.all_eq_true, decide_eq_true_eq] at h
  have hm := spacesL_mem.1 hx
  rw [candK_C] at hm
  exact h.1 x hm
theorem kept_sum {n : Nat} (h1 : 1 ≤ n) (h3 : n ≤ 3) : ((spacesL n).map (keptN n)).sum = upN n * facN n := by
  have h := chk_all h1 h3
  simp only [chkN, Bool.and_eq_true, decide_eq_true_eq] at h
  have hp : (spacesL n).Perm (candC n) := by
    rw [← candK_C]
    exact List.mergeSort_perm _ _
  have e1 : ((spacesL n).map (keptN n)).sum = ((candC n).map (keptN n)).sum := (hp.map _).sum_nat
  have e2 : upN n = ((candC n).filter fun x => decide (leastN n x = x)).length := (hp.filter _).length_eq
  rw [e1, e2, h.2]
theorem kept_small {n : Nat} (h3 : n ≤ 3) (x : List Nat) : keptN n x ≤ 823543 := kept_le (by omega) x
theorem at_of {N r : Int} (h : atB N r = true) : ∃ n k : Nat, N = (n : Int) ∧ r = (k : Int) ∧ 1 ≤ n ∧ n ≤ 3 ∧ k < (spacesL n).length := by
  rw [atB, Bool.and_eq_true, decide_eq_true_iff, decide_eq_true_iff] at h
  obtain ⟨⟨h1, h2⟩, h3, h4⟩ := h
  exact ⟨N.toNat, r.toNat, by omega, by omega, by omega, by omega, by omega⟩
theorem facN_succ (n : Nat) : facN (n + 1) = (n + 1) * facN n := rfl
theorem fac_le {n : Nat} (h : n ≤ 3) : facN n ≤ 6 := by
  match n, h with
  | 0, _ => decide
  | 1, _ => decide
  | 2, _ => decide
  | 3, _ => decide
def kSum (n : Nat) (L : List (List Nat)) (q : Nat) : Nat := ((L.take q).map (keptN n)).sum
theorem kSum_zero (n : Nat) (L : List (List Nat)) : kSum n L 0 = 0 := by simp [kSum]
theorem kSum_succ (n : Nat) (L : List (List Nat)) (q : Nat) (h : q < L.length) : kSum n L (q + 1) = kSum n L q + keptN n L[q] := by
  unfold kSum
  rw [List.take_succ_eq_append_getElem h, List.map_append, List.sum_append]; simp
theorem kSum_all (n : Nat) (L : List (List Nat)) : kSum n L L.length = (L.map (keptN n)).sum := by simp [kSum]
theorem kSum_le {n : Nat} (h : n ≤ 3) (L : List (List Nat)) (q : Nat) : kSum n L q ≤ q * 823543 := by
  unfold kSum
  have : ∀ l : List (List Nat), (l.map (keptN n)).sum ≤ l.length * 823543 := by
    intro l
    induction l with
    | nil => simp
    | cons a l ih =>
      have := kept_small h a
      simp only [List.map_cons, List.sum_cons, List.length_cons]
      omega
  exact Nat.le_trans (this _) (Nat.mul_le_mul_right _ (List.length_take_le _ _))
end Go.Proofs.Ytnncipcldbopgaa
namespace Go.Proofs.Ytnncipcldbopgaa
set_option linter.unusedSimpArgs false
set_option linter.unusedVariables false
set_option maxHeartbeats 4000000
set_option maxRecDepth 20000
open Go Go.Eng
attribute [local irreducible] WD RunD PreD Runs CallOK
theorem lawAllSpacesCounted_ok (h0 : Hp) (v : Value) (xs : List Int) (hv : Bytes h0 v xs) (w : Value) (ys : List Int) (hw : Bytes h0 w ys) : CallOK Try.prog 4 #[v, w] h0 (.bool true) h0 := by
  have ntv := hv.nt
  have csv := hv.cs
  have ntw := hw.nt
  have csw := hw.cs
  refine callY_P 221 _ [.tmp 4] Try.func4 rfl rfl rfl (by first | rfl | simp) ?_
  try simp (disch := first | omega | (simp; done) | fail) [wrap64c, if_pos, if_neg, ntv, csv, ntw, csw]
  refine callG_c (by simp) (by simp) ?ha (big_ok h0 _ _ _ _ hv hw) ?_
  (case ha => simp (disch := first | omega | (simp; done) | fail) [wrap64c, if_pos, if_neg, ntv, csv, ntw, csw])
  by_cases hbig : 1048576 < xs.length ∨ 1048576 - (xs.length : Int) < ys.length
  case pos =>
    try simp (disch := first | omega | (simp; done) | fail) [wrap64c, if_pos, if_neg, ntv, csv, ntw, csw, hbig]
    exact done_ret rfl (by simp)
  have lxs : xs.length ≤ 1048576 := by omega
  have lys : ys.length ≤ 1048576 := by omega
  try simp (disch := first | omega | (simp; done) | fail) [wrap64c, if_pos, if_neg, ntv, csv, ntw, csw, hbig]
  have K0 : Keeps h0 h0 := .refl _
  obtain ⟨_, h1, p1, a1, N, r, rfl⟩ := drawSpaceAt_ok h0 v xs (bytes_old hv)
  refine callG_c (by simp) (by simp) ?ha (p1) ?_
  (case ha => simp (disch := first | omega | (simp; done) | fail) [wrap64c, if_pos, if_neg, ntv, csv, ntw, csw, hbig])
  have n1 := a1.1.1
  have K1 := K0.trans a1.1
  have hv := hv.keep a1.1
  have hw := hw.keep a1.1
  try simp (disch := first | omega | (simp; done) | fail) [wrap64c, if_pos, if_neg, ntv, csv, ntw, csw, hbig]
  obtain ⟨_, h2, p2, a2, u1, rfl, hu1⟩ := implAt_ok h1 N r
  refine callG_c (by simp) (by simp) ?ha (p2) ?_
  (case ha => simp (disch := first | omega | (simp; done) | fail) [wrap64c, if_pos, if_neg, ntv, csv, ntw, csw, hbig])
  have n2 := a2.1.1
  have K2 := K1.trans a2.1
  have hv := hv.keep a2.1
  have hw := hw.keep a2.1
  have hu1 := hu1.space
  obtain ⟨s1, rfl, hs1⟩ := hu1
  have nts1 := hs1.nt
  have css1 := hs1.cs
  have hu1 : Space h2 (.agg #[.int .i64 (atN N r), s1]) (atN N r) (atX N r) := ⟨s1, rfl, hs1⟩
  try simp (disch := first | omega | (simp; done) | fail) [wrap64c, if_pos, if_neg, ntv, csv, ntw, csw, hbig, nts1, css1, putCells]
  first | refine WY_heap fun h3 q_h3 => ?_ | refine callG_heap fun h3 q_h3 => ?_ | refine callP_heap fun h3 q_h3 => ?_ | refine callS_heap fun h3 q_h3 => ?_ | refine RY_heap fun h3 q_h3 => ?_ | refine PY_heap fun h3 q_h3 => ?_ | refine SY_heap fun h3 q_h3 => ?_ | refine doneY_heap fun h3 q_h3 => ?_ | refine loopK_heap fun h3 q_h3 => ?_ | refine thenY_heap fun h3 q_h3 => ?_ | refine thenM_heap fun h3 q_h3 => ?_
  have b3 : Adds h2 h3 := by rw [q_h3]; exact (by first | exact aK | exact kK)
  have n3 := b3.1.1
  have K3 := K2.trans b3.1
  have hv := hv.keep b3.1
  have hw := hw.keep b3.1
  have hu1 := hu1.keep b3.1
  have m3 : h3.next = h2.next + 1 := by simp [q_h3]
  have gs : h3.get h2.next = .cells [.int .i64 (atN N r), s1] true true 1 := by simp [q_h3]
  obtain ⟨_, h4, p4, a4, u2, rfl, hu2⟩ := specAt_ok h3 N r
  refine callG_c (by simp) (by simp) ?ha (p4) ?_
  (case ha => simp (disch := first | omega | (simp; done) | fail) [wrap64c, if_pos, if_neg, ntv, csv, ntw, csw, hbig, nts1, css1, gs])
  have n4 := a4.1.1
  have K4 := K3.trans a4.1
  have gs : h4.get h2.next = .cells [.int .i64 (atN N r), s1] true true 1 := by rw [a4.1.2 _ (by omega)]; exact gs
  have hv := hv.keep a4.1
  have hw := hw.keep a4.1
  have hu1 := hu1.keep a4.1
  have hu2 := hu2.space
  obtain ⟨s2, rfl, hs2⟩ := hu2
  have nts2 := hs2.nt
  have css2 := hs2.cs
  have hu2 : Space h4 (.agg #[.int .i64 (atN N r), s2]) (atN N r) (atX N r) := ⟨s2, rfl, hs2⟩
  try simp (disch := first | omega | (simp; done) | fail) [wrap64c, if_pos, if_neg, ntv, csv, ntw, csw, hbig, nts1, css1, gs, nts2, css2, putCells]
  first | refine WY_heap fun h5 q_h5 => ?_ | refine callG_heap fun h5 q_h5 => ?_ | refine callP_heap fun h5 q_h5 => ?_ | refine callS_heap fun h5 q_h5 => ?_ | refine RY_heap fun h5 q_h5 => ?_ | refine PY_heap fun h5 q_h5 => ?_ | refine SY_heap fun h5 q_h5 => ?_ | refine doneY_heap fun h5 q_h5 => ?_ | refine loopK_heap fun h5 q_h5 => ?_ | refine thenY_heap fun h5 q_h5 => ?_ | refine thenM_heap fun h5 q_h5 => ?_
  have b5 : Adds h4 h5 := by rw [q_h5]; exact (by first | exact aK | exact kK)
  have n5 := b5.1.1
  have K5 := K4.trans b5.1
  have gs : h5.get h2.next = .cells [.int .i64 (atN N r), s1] true true 1 := by rw [b5.1.2 _ (by omega)]; exact gs
  have hv := hv.keep b5.1
  have hw := hw.keep b5.1
  have hu1 := hu1.keep b5.1
  have hu2 := hu2.keep b5.1
  have m5 : h5.next = h4.next + 1 := by simp [q_h5]
  have gt : h5.get h4.next = .cells [.int .i64 (atN N r), s2] true true 1 := by simp [q_h5]
  refine callG_c (by simp) (by simp) ?ha (iSpace_ok h5 _ _ _ _ _ _ hu1 hu2) ?_
  (case ha => simp (disch := first | omega | (simp; done) | fail) [wrap64c, if_pos, if_neg, ntv, csv, ntw, csw, hbig, nts1, css1, gs, nts2, css2, gt])
  try simp (disch := first | omega | (simp; done) | fail) [wrap64c, if_pos, if_neg, ntv, csv, ntw, csw, hbig, nts1, css1, gs, nts2, css2, gt]
  obtain ⟨_, h6, p6, a6, mr, rfl, hmr⟩ := drawAllSpaces_ok h5 w ys (bytes_old hw)
  refine callG_c (by simp) (by simp) ?ha (p6) ?_
  (case ha => simp (disch := first | omega | (simp; done) | fail) [wrap64c, if_pos, if_neg, ntv, csv, ntw, csw, hbig, nts1, css1, gs, nts2, css2, gt])
  have n6 := a6.1.1
  have K6 := K5.trans a6.1
  have gs : h6.get h2.next = .cells [.int .i64 (atN N r), s1] true true 1 := by rw [a6.1.2 _ (by omega)]; exact gs
  have gt : h6.get h4.next = .cells [.int .i64 (atN N r), s2] true true 1 := by rw [a6.1.2 _ (by omega)]; exact gt
  have hv := hv.keep a6.1
  have hw := hw.keep a6.1
  have hu1 := hu1.keep a6.1
  have hu2 := hu2.keep a6.1
  obtain ⟨M, hM⟩ : ∃ M : Int, M = (mr : Int) - 1 := ⟨_, rfl⟩
  rw [← hM]
  obtain ⟨bM, hbM⟩ : ∃ b : Bool, b = decide (1 ≤ M ∧ M ≤ 3) := ⟨_, rfl⟩
  try simp (disch := first | omega | (simp; done) | fail) [wrap64c, if_pos, if_neg, ntv, csv, ntw, csw, hbig, nts1, css1, gs, nts2, css2, gt]
  obtain ⟨_, h7, p7, a7, u3, rfl, Lp, hu3, hLp, _⟩ := implAll_ok h6 M
  rw [← hbM] at p7
  refine callG_c (by simp) (by simp) ?ha (p7) ?_
  (case ha => simp (disch := first | omega | (simp; done) | fail) [wrap64c, if_pos, if_neg, ntv, csv, ntw, csw, hbig, nts1, css1, gs, nts2, css2, gt])
  have n7 := a7.1.1
  have K7 := K6.trans a7.1
  have gs : h7.get h2.next = .cells [.int .i64 (atN N r), s1] true true 1 := by rw [a7.1.2 _ (by omega)]; exact gs
  have gt : h7.get h4.next = .cells [.int .i64 (atN N r), s2] true true 1 := by rw [a7.1.2 _ (by omega)]; exact gt
  have hv := hv.keep a7.1
  have hw := hw.keep a7.1
  have hu1 := hu1.keep a7.1
  have hu2 := hu2.keep a7.1
  try simp (disch := first | omega | (simp; done) | fail) [wrap64c, if_pos, if_neg, ntv, csv, ntw, csw, hbig, nts1, css1, gs, nts2, css2, gt]
  obtain ⟨_, h8, p8, a8, u4, rfl, hu4⟩ := specAll_ok h7 M
  rw [← hbM] at p8
  refine callG_c (by simp) (by simp) ?ha (p8) ?_
  (case ha => simp (disch := first | omega | (simp; done) | fail) [wrap64c, if_pos, if_neg, ntv, csv, ntw, csw, hbig, nts1, css1, gs, nts2, css2, gt])
  have n8 := a8.1.1
  have K8 := K7.trans a8.1
  have gs : h8.get h2.next = .cells [.int .i64 (atN N r), s1] true true 1 := by rw [a8.1.2 _ (by omega)]; exact gs
  have gt : h8.get h4.next = .cells [.int .i64 (atN N r), s2] true true 1 := by rw [a8.1.2 _ (by omega)]; exact gt
  have hv := hv.keep a8.1
  have hw := hw.keep a8.1
  have hu1 := hu1.keep a8.1
  have hu2 := hu2.keep a8.1
  have hu3 : GL 2 (spO M.toNat) h6.next h8 u3 (allR M) := by
    have := GL.mapR (fun p : Nat × List Nat => p.2) hu3 fun F u x hs => hs.spO
    rw [hLp] at this
    exact this.keep (spO_steady _) a8.1
  have lu3 := hu3.lenD
  have lu4 := hu4.lenD
  have lal := allR_len M
  by_cases hc : 1 ≤ M ∧ M ≤ 3
  case neg =>
    have hc' : bM = false := by rw [hbM]; exact decide_eq_false hc
    have hc2 := hc
    try simp (disch := first | omega | (simp; done) | fail) [wrap64c, if_pos, if_neg, ntv, csv, ntw, csw, hbig, nts1, css1, gs, nts2, css2, gt, lu3, lu4, hc', hc2]
    obtain ⟨g0, hg0⟩ : ∃ x, x = h8 := ⟨_, rfl⟩
    have K0 := K8
    rw [← hg0] at K0
    have hv := hv
    have hw := hw
    have hu1 := hu1
    rw [← hg0] at hv
    rw [← hg0] at hw
    rw [← hg0] at hu1
    have lobgs : h2.next < g0.next := by rw [hg0]; omega
    have gs : g0.get h2.next = .cells [.int .i64 (atN N r), s1] true true 1 := by rw [hg0]; exact gs
    try rw [← hg0]
    obtain ⟨_, g1, p1, a1, kk, rfl⟩ := drawCountSpaces_ok g0 w ys (bytes_old hw)
    refine callG_c (by simp) (by simp) ?ha (p1) ?_
    (case ha => simp (disch := first | omega | (simp; done) | fail) [wrap64c, if_pos, if_neg, ntv, csv, ntw, csw, hbig, nts1, css1, gs, nts2, css2, gt, lu3, lu4, hc', hc2])
    have n1 := a1.1.1
    have K1 := K0.trans a1.1
    have gs : g1.get h2.next = .cells [.int .i64 (atN N r), s1] true true 1 := by rw [a1.1.2 _ (by omega)]; exact gs
    have hv := hv.keep a1.1
    have hw := hw.keep a1.1
    have hu1 := hu1.keep a1.1
    try simp (disch := first | omega | (simp; done) | fail) [wrap64c, if_pos, if_neg, ntv, csv, ntw, csw, hbig, nts1, css1, gs, nts2, css2, gt, lu3, lu4, hc', hc2]
    obtain ⟨bk, hbk⟩ : ∃ b : Bool, b = decide (1 ≤ kk ∧ kk ≤ 4) := ⟨_, rfl⟩
    have pk1 := implCount_ok g1 kk
    have pk2 := specCount_ok g1 kk
    rw [← hbk] at pk1 pk2
    refine callG_c (by simp) (by simp) ?ha (pk1) ?_
    (case ha => simp (disch := first | omega | (simp; done) | fail) [wrap64c, if_pos, if_neg, ntv, csv, ntw, csw, hbig, nts1, css1, gs, nts2, css2, gt, lu3, lu4, hc', hc2])
    try simp (disch := first | omega | (simp; done) | fail) [wrap64c, if_pos, if_neg, ntv, csv, ntw, csw, hbig, nts1, css1, gs, nts2, css2, gt, lu3, lu4, hc', hc2]
    refine callG_c (by simp) (by simp) ?ha (pk2) ?_
    (case ha => simp (disch := first | omega | (simp; done) | fail) [wrap64c, if_pos, if_neg, ntv, csv, ntw, csw, hbig, nts1, css1, gs, nts2, css2, gt, lu3, lu4, hc', hc2])
    try simp (disch := first | omega | (simp; done) | fail) [wrap64c, if_pos, if_neg, ntv, csv, ntw, csw, hbig, nts1, css1, gs, nts2, css2, gt, lu3, lu4, hc', hc2]
    obtain ⟨_, g2, p2, a2, uu, rfl⟩ := drawCountUp_ok g1 v xs (bytes_old hv)
    refine callG_c (by simp) (by simp) ?ha (p2) ?_
    (case ha => simp (disch := first | omega | (simp; done) | fail) [wrap64c, if_pos, if_neg, ntv, csv, ntw, csw, hbig, nts1, css1, gs, nts2, css2, gt, lu3, lu4, hc', hc2])
    have n2 := a2.1.1
    have K2 := K1.trans a2.1
    have gs : g2.get h2.next = .cells [.int .i64 (atN N r), s1] true true 1 := by rw [a2.1.2 _ (by omega)]; exact gs
    have hv := hv.keep a2.1
    have hw := hw.keep a2.1
    have hu1 := hu1.keep a2.1
    try simp (disch := first | omega | (simp; done) | fail) [wrap64c, if_pos, if_neg, ntv, csv, ntw, csw, hbig, nts1, css1, gs, nts2, css2, gt, lu3, lu4, hc', hc2]
    obtain ⟨bu, hbu⟩ : ∃ b : Bool, b = decide (1 ≤ uu ∧ uu ≤ 4) := ⟨_, rfl⟩
    have pu1 := implUp_ok g2 uu
    have pu2 := specUp_ok g2 uu
    rw [← hbu] at pu1 pu2
    refine callG_c (by simp) (by simp) ?ha (pu1) ?_
    (case ha => simp (disch := first | omega | (simp; done) | fail) [wrap64c, if_pos, if_neg, ntv, csv, ntw, csw, hbig, nts1, css1, gs, nts2, css2, gt, lu3, lu4, hc', hc2])
    try simp (disch := first | omega | (simp; done) | fail) [wrap64c, if_pos, if_neg, ntv, csv, ntw, csw, hbig, nts1, css1, gs, nts2, css2, gt, lu3, lu4, hc', hc2]
    refine callG_c (by simp) (by simp) ?ha (pu2) ?_
    (case ha => simp (disch := first | omega | (simp; done) | fail) [wrap64c, if_pos, if_neg, ntv, csv, ntw, csw, hbig, nts1, css1, gs, nts2, css2, gt, lu3, lu4, hc', hc2])
    by_cases hb : atB N r = true
    case neg =>
      have hb' : atB N r = false := by simpa using hb
      try simp (disch := first | omega | (simp; done) | fail) [wrap64c, if_pos, if_neg, ntv, csv, ntw, csw, hbig, nts1, css1, gs, nts2, css2, gt, lu3, lu4, hc', hc2, hb']
      exact done_ret rfl (by simp [K2])
    have hb' := hb
    obtain ⟨n, rk, rfl, rfl, n1', n3', hrk⟩ := at_of hb
    have eN : atN (n : Int) (rk : Int) = (n : Int) := by rw [atN, if_pos hb]
    have eX : atX (n : Int) (rk : Int) = toN (spacesL n)[rk] := by rw [atX, if_pos hb]; simp [hrk]
    rw [eN, eX] at hu1
    have eN' := eN
    have gd := spacesL_good (List.getElem_mem hrk)
    have hsp : spB (n : Int) (toN (spacesL n)[rk]) = true := spB_of gd
    have hrr : rankR (n : Int) (toN (spacesL n)[rk]) = (rk : Int) := by rw [rankR, if_pos ⟨hsp, by omega⟩, natsOf_toN]; simp [(spacesL_nodup n1').idxOf_getElem]
    have hn3 : (n : Int) ≤ 3 := by omega
    try simp (disch := first | omega | (simp; done) | fail) [wrap64c, if_pos, if_neg, ntv, csv, ntw, csw, hbig, nts1, css1, gs, nts2, css2, gt, lu3, lu4, hc', hc2, hb', eN', hsp, hrr, hn3]
    refine callG_c (by simp) (by simp) ?ha (implRank_ok g2 _ _ _ hu1 (good_lt gd)) ?_
    (case ha => simp (disch := first | omega | (simp; done) | fail) [wrap64c, if_pos, if_neg, ntv, csv, ntw, csw, hbig, nts1, css1, gs, nts2, css2, gt, lu3, lu4, hc', hc2, hb', eN', hsp, hrr, hn3])
    try simp (disch := first | omega | (simp; done) | fail) [wrap64c, if_pos, if_neg, ntv, csv, ntw, csw, hbig, nts1, css1, gs, nts2, css2, gt, lu3, lu4, hc', hc2, hb', eN', hsp, hrr, hn3]
    exact done_ret rfl (by simp [K2])
  have hc' : bM = true := by rw [hbM]; exact decide_eq_true hc
  have hc2 := hc
  obtain ⟨mz, hm⟩ : ∃ mz : Nat, mz = M.toNat := ⟨_, rfl⟩
  have m1 : 1 ≤ mz := by omega
  have m3 : mz ≤ 3 := by omega
  have hMm : M = (mz : Int) := by omega
  obtain ⟨SL, hSL⟩ : ∃ S, S = spacesL mz := ⟨_, rfl⟩
  have eA : allR M = SL := by rw [allR, if_pos hc, hSL, hm]
  rw [eA, ← hm] at hu3 hu4
  rw [eA] at lal
  have lu3 := hu3.lenD
  have lu4 := hu4.lenD
  have hLg : ∀ x ∈ SL, SpGood mz x := fun x hx => spacesL_good (hSL ▸ hx)
  have eC : cntSpR M = (SL.length : Int) := by rw [cntSpR, if_pos ⟨hc.1, by omega⟩, ← hm, hSL]
  have eU : upR M = ((upN mz : Nat) : Int) := by rw [upR, if_pos ⟨hc.1, by omega⟩, ← hm]
  have c4 : (decide (1 ≤ M ∧ M ≤ 4)) = true := decide_eq_true ⟨hc.1, by omega⟩
  have pk1 := implCount_ok h8 M
  rw [eC, c4] at pk1
  have pu1 := implUp_ok h8 M
  rw [eU, c4] at pu1
  try simp (disch := first | omega | (simp; done) | fail) [wrap64c, if_pos, if_neg, ntv, csv, ntw, csw, hbig, nts1, css1, gs, nts2, css2, gt, lu3, lu4, hc', hc2]
  refine callG_c (by simp) (by simp) ?ha (pk1) ?_
  (case ha => simp (disch := first | omega | (simp; done) | fail) [wrap64c, if_pos, if_neg, ntv, csv, ntw, csw, hbig, nts1, css1, gs, nts2, css2, gt, lu3, lu4, hc', hc2])
  try simp (disch := first | omega | (simp; done) | fail) [wrap64c, if_pos, if_neg, ntv, csv, ntw, csw, hbig, nts1, css1, gs, nts2, css2, gt, lu3, lu4, hc', hc2]
  refine callG_c (by simp) (by simp) ?ha (pu1) ?_
  (case ha => simp (disch := first | omega | (simp; done) | fail) [wrap64c, if_pos, if_neg, ntv, csv, ntw, csw, hbig, nts1, css1, gs, nts2, css2, gt, lu3, lu4, hc', hc2])
  try simp (disch := first | omega | (simp; done) | fail) [wrap64c, if_pos, if_neg, ntv, csv, ntw, csw, hbig, nts1, css1, gs, nts2, css2, gt, lu3, lu4, hc', hc2]
  refine WD_loopC [0, 1, 6, 7, 10, 11, 12, 14, 16, 17, 18, 19] (fun m tm h' => ∃ j, m = mz - j ∧ h8 = h' ∧ tm 20 = .int .i64 ((facN (j + 1) : Nat) : Int) ∧ tm 21 = .int .i64 ((j : Int) + 2) ∧ (j + 1 ≤ mz)) _ ⟨0, rfl, rfl, rfl, rfl, (by first | omega | assumption | (simp (disch := first | omega | (simp; done) | fail) [wrap64c, if_pos, if_neg, ntv, csv, ntw, csw, hbig, nts1, css1, gs, nts2, css2, gt, lu3, lu4, hc', hc2] <;> omega))⟩ ?_
  rintro m tm h' hFr ⟨j, rfl, rfl, e20, e21, hj⟩
  simp only [FrameL] at hFr
  obtain ⟨f0_0, f1_0, f6_0, f7_0, f10_0, f11_0, f12_0, f14_0, f16_0, f17_0, f18_0, f19_0, -⟩ := hFr
  try simp (disch := first | omega | (simp; done) | fail) [wrap64c, if_pos, if_neg, ntv, csv, ntw, csw, hbig, nts1, css1, gs, nts2, css2, gt, lu3, lu4, hc', hc2] at f0_0 f1_0 f6_0 f7_0 f10_0 f11_0 f12_0 f14_0 f16_0 f17_0 f18_0 f19_0
  have e0 := f0_0
  have e1 := f1_0
  have e6 := f6_0
  have e7 := f7_0
  have e10 := f10_0
  have e11 := f11_0
  have e12 := f12_0
  have e14 := f14_0
  have e16 := f16_0
  have e17 := f17_0
  have e18 := f18_0
  have e19 := f19_0
  have hf1 := fac_le (n := j + 1) (by omega)
  by_cases hlt : j + 2 ≤ mz
  · have hlt' : (j : Int) + 2 ≤ M := by omega
    have hf2 := fac_le (n := j + 2) (by omega)
    have hfm : ((facN (j + 1) : Nat) : Int) * ((j : Int) + 2) = ((facN (j + 2) : Nat) : Int) := by rw [facN_succ (j + 1)]; simp [Int.mul_comm]
    try simp (disch := first | omega | (simp; done) | fail) [wrap64c, if_pos, if_neg, ntv, csv, ntw, csw, hbig, nts1, css1, gs, nts2, css2, gt, lu3, lu4, hc', hc2, e0, e1, e6, e7, e10, e11, e12, e14, e16, e17, e18, e19, e20, e21, hlt', hfm]
    refine loopK_next _ ?hm ?hf ⟨j + 1, rfl, rfl, (by simp), (by simp; omega), (by first | omega | assumption | (simp (disch := first | omega | (simp; done) | fail) [wrap64c, if_pos, if_neg, ntv, csv, ntw, csw, hbig, nts1, css1, gs, nts2, css2, gt, lu3, lu4, hc', hc2, e0, e1, e6, e7, e10, e11, e12, e14, e16, e17, e18, e19, e20, e21, hlt', hfm] <;> omega))⟩
    (case hm => first | omega | (simp; omega))
    (case hf => simp [FrameL, ntv, csv, ntw, csw, hbig, nts1, css1, gs, nts2, css2, gt, lu3, lu4, hc', hc2, e0, e1, e6, e7, e10, e11, e12, e14, e16, e17, e18, e19, e20, e21, hlt', hfm, f0_0, f1_0, f6_0, f7_0, f10_0, f11_0, f12_0, f14_0, f16_0, f17_0, f18_0, f19_0])
  · have hlt' : ¬ (j : Int) + 2 ≤ M := by omega
    have hje : j + 1 = mz := by omega
    rw [hje] at e20 hf1
    have e20' := e20
    try simp (disch := first | omega | (simp; done) | fail) [wrap64c, if_pos, if_neg, ntv, csv, ntw, csw, hbig, nts1, css1, gs, nts2, css2, gt, lu3, lu4, hc', hc2, e0, e1, e6, e7, e10, e11, e12, e14, e16, e17, e18, e19, e20, e21, hlt', e20']
    refine WD_loopC [0, 1, 6, 7, 10, 12, 14, 16, 17, 18, 19, 20, 109, 110] (fun m tm h' => ∃ q, m = SL.length - q ∧ tm 22 = .int .i64 ((kSum mz SL q : Nat) : Int) ∧ tm 111 = .int .i64 (q : Int) ∧ (q ≤ SL.length) ∧ (Adds h8 h')) _ ⟨0, rfl, (by simp [kSum_zero]), (by simp (disch := first | omega | (simp; done) | fail) [wrap64c, if_pos, if_neg, ntv, csv, ntw, csw, hbig, nts1, css1, gs, nts2, css2, gt, lu3, lu4, hc', hc2, e0, e1, e6, e7, e10, e11, e12, e14, e16, e17, e18, e19, e20, e21, hlt', e20']), (by first | omega | assumption | (simp (disch := first | omega | (simp; done) | fail) [wrap64c, if_pos, if_neg, ntv, csv, ntw, csw, hbig, nts1, css1, gs, nts2, css2, gt, lu3, lu4, hc', hc2, e0, e1, e6, e7, e10, e11, e12, e14, e16, e17, e18, e19, e20, e21, hlt', e20'] <;> omega)), (adds_self _)⟩ ?_
    rintro m tm h' hFr ⟨q, rfl, e22, e111, hq, hd⟩
    simp only [FrameL] at hFr
    obtain ⟨f0_1, f1_1, f6_1, f7_1, f10_1, f12_1, f14_1, f16_1, f17_1, f18_1, f19_1, f20_1, f109_1, f110_1, -⟩ := hFr
    try simp (disch := first | omega | (simp; done) | fail) [wrap64c, if_pos, if_neg, ntv, csv, ntw, csw, hbig, nts1, css1, gs, nts2, css2, gt, lu3, lu4, hc', hc2, e0, e1, e6, e7, e10, e11, e12, e14, e16, e17, e18, e19, e20, e21, hlt', e20'] at f0_1 f1_1 f6_1 f7_1 f10_1 f12_1 f14_1 f16_1 f17_1 f18_1 f19_1 f20_1 f109_1 f110_1
    have e0 := f0_1
    have e1 := f1_1
    have e6 := f6_1
    have e7 := f7_1
    have e10 := f10_1
    have e12 := f12_1
    have e14 := f14_1
    have e16 := f16_1
    have e17 := f17_1
    have e18 := f18_1
    have e19 := f19_1
    have e20 := f20_1
    have e109 := f109_1
    have e110 := f110_1
    have nd := hd.1.1
    by_cases hlq : q < SL.length
    · have g := hLg _ (List.getElem_mem hlq)
      obtain ⟨kd1, kd2⟩ := kept_div m1 m3 (x := SL[q]) (by rw [← hSL]; exact List.getElem_mem hlq)
      obtain ⟨o, cs, ex, w1, y1, y2, y3, y4, y5, y6⟩ := spG_at (hu3.keep (spO_steady mz) hd.1) hlq
      obtain ⟨o', cs', ex', w2, z1, z2, z3, z4, z5, z6⟩ := spG_at (hu4.keep (spO_steady mz) hd.1) hlq
      have y1' := y1
      have z1' := z1
      have ntw1 := y6.nt
      have csw1 := y6.cs
      have ntw2 := z6.nt
      have csw2 := z6.cs
      rename Hp => hq'
      try simp (disch := first | omega | (simp; done) | fail) [wrap64c, if_pos, if_neg, ntv, csv, ntw, csw, hbig, nts1, css1, gs, nts2, css2, gt, lu3, lu4, hc', hc2, e0, e1, e6, e7, e10, e11, e12, e14, e16, e17, e18, e19, e20, e21, hlt', e20', e22, e109, e110, e111, hlq, y1', y3, y4, y5, z1', z3, z4, z5, ntw1, csw1, ntw2, csw2, putCells]
      first | refine WY_heap fun h9 q_h9 => ?_ | refine callG_heap fun h9 q_h9 => ?_ | refine callP_heap fun h9 q_h9 => ?_ | refine callS_heap fun h9 q_h9 => ?_ | refine RY_heap fun h9 q_h9 => ?_ | refine PY_heap fun h9 q_h9 => ?_ | refine SY_heap fun h9 q_h9 => ?_ | refine doneY_heap fun h9 q_h9 => ?_ | refine loopK_heap fun h9 q_h9 => ?_ | refine thenY_heap fun h9 q_h9 => ?_ | refine thenM_heap fun h9 q_h9 => ?_
      have k9 : Adds hq' h9 := by rw [q_h9]; exact (by first | exact aK | exact kK)
      have n9 : h9.next = hq'.next + 1 := by simp [q_h9]
      have gb9 : h9.get hq'.next = .cells [.int .i64 (mz : Int), w1] true true 1 := by simp [q_h9]
      have z39 : h9.get o' = .cells cs' true ex' 2 := by rw [k9.1.2 _ z2.2]; exact z3
      have hX1 : Space h9 (.agg #[.int .i64 (mz : Int), w1]) (mz : Int) (toN SL[q]) := .mk (y6.keep k9.1).ints
      have hX2 : Space h9 (.agg #[.int .i64 (mz : Int), w2]) (mz : Int) (toN SL[q]) := .mk (z6.keep k9.1).ints
      have eK : keptR (mz : Int) (toN SL[q]) = ((keptN mz SL[q] : Nat) : Int) := by rw [keptR, if_pos (by rw [fewB, spB_of g]; simp; omega), natsOf_toN]; rfl
      have eF : fewB (mz : Int) (toN SL[q]) = true := by rw [fewB, spB_of g]; simp; omega
      have pn := implKept_ok h9 _ _ _ hX1 (good_lt g)
      rw [eK, eF] at pn
      have hsp : spB (mz : Int) (toN SL[q]) = true := spB_of g
      have hks := kept_small m3 SL[q]
      have hss := kSum_succ mz SL q hlq
      have hsl := kSum_le m3 SL q
      obtain ⟨kq, hkq⟩ : ∃ k, k = keptN mz SL[q] := ⟨_, rfl⟩
      rw [← hkq] at kd1 kd2 pn hks hss
      have htm : Int.tmod ((facN mz : Nat) : Int) (kq : Int) = 0 := by rw [Int.tmod_eq_emod_of_nonneg (by omega)]; omega
      have hk0 : ¬ (kq : Int) = 0 := by omega
      try simp (disch := first | omega | (simp; done) | fail) [wrap64c, if_pos, if_neg, ntv, csv, ntw, csw, hbig, nts1, css1, gs, nts2, css2, gt, lu3, lu4, hc', hc2, e0, e1, e6, e7, e10, e11, e12, e14, e16, e17, e18, e19, e20, e21, hlt', e20', e22, e109, e110, e111, hlq, y1', y3, y4, y5, z1', z3, z4, z5, ntw1, csw1, ntw2, csw2, gb9, z39, hsp, htm, hk0]
      refine callG_c (by simp) (by simp) ?ha (pn) ?_
      (case ha => simp (disch := first | omega | (simp; done) | fail) [wrap64c, if_pos, if_neg, ntv, csv, ntw, csw, hbig, nts1, css1, gs, nts2, css2, gt, lu3, lu4, hc', hc2, e0, e1, e6, e7, e10, e11, e12, e14, e16, e17, e18, e19, e20, e21, hlt', e20', e22, e109, e110, e111, hlq, y1', y3, y4, y5, z1', z3, z4, z5, ntw1, csw1, ntw2, csw2, gb9, z39, hsp, htm, hk0])
      try simp (disch := first | omega | (simp; done) | fail) [wrap64c, if_pos, if_neg, ntv, csv, ntw, csw, hbig, nts1, css1, gs, nts2, css2, gt, lu3, lu4, hc', hc2, e0, e1, e6, e7, e10, e11, e12, e14, e16, e17, e18, e19, e20, e21, hlt', e20', e22, e109, e110, e111, hlq, y1', y3, y4, y5, z1', z3, z4, z5, ntw1, csw1, ntw2, csw2, gb9, z39, hsp, htm, hk0]
      refine WD_drawC 19 rfl (by kernel_rfl) ?_
      try simp (disch := first | omega | (simp; done) | fail) [wrap64c, if_pos, if_neg, ntv, csv, ntw, csw, hbig, nts1, css1, gs, nts2, css2, gt, lu3, lu4, hc', hc2, e0, e1, e6, e7, e10, e11, e12, e14, e16, e17, e18, e19, e20, e21, hlt', e20', e22, e109, e110, e111, hlq, y1', y3, y4, y5, z1', z3, z4, z5, ntw1, csw1, ntw2, csw2, gb9, z39, hsp, htm, hk0]
      refine callP_c (by simp) (by simp) ?ha (iSpace_ok h9 _ _ _ _ _ _ hX1 hX2) ?hadd ?_
      (case ha => simp (disch := first | omega | (simp; done) | fail) [wrap64c, if_pos, if_neg, ntv, csv, ntw, csw, hbig, nts1, css1, gs, nts2, css2, gt, lu3, lu4, hc', hc2, e0, e1, e6, e7, e10, e11, e12, e14, e16, e17, e18, e19, e20, e21, hlt', e20', e22, e109, e110, e111, hlq, y1', y3, y4, y5, z1', z3, z4, z5, ntw1, csw1, ntw2, csw2, gb9, z39, hsp, htm, hk0])
      (case hadd => first | assumption | exact adds_self _ | (simp; done))
      try simp (disch := first | omega | (simp; done) | fail) [wrap64c, if_pos, if_neg, ntv, csv, ntw, csw, hbig, nts1, css1, gs, nts2, css2, gt, lu3, lu4, hc', hc2, e0, e1, e6, e7, e10, e11, e12, e14, e16, e17, e18, e19, e20, e21, hlt', e20', e22, e109, e110, e111, hlq, y1', y3, y4, y5, z1', z3, z4, z5, ntw1, csw1, ntw2, csw2, gb9, z39, hsp, htm, hk0]
      refine callP_c (by simp) (by simp) ?ha (isSpace_ok h9 _ _ _ hX1 (good_lt g)) ?hadd ?_
      (case ha => simp (disch := first | omega | (simp; done) | fail) [wrap64c, if_pos, if_neg, ntv, csv, ntw, csw, hbig, nts1, css1, gs, nts2, css2, gt, lu3, lu4, hc', hc2, e0, e1, e6, e7, e10, e11, e12, e14, e16, e17, e18, e19, e20, e21, hlt', e20', e22, e109, e110, e111, hlq, y1', y3, y4, y5, z1', z3, z4, z5, ntw1, csw1, ntw2, csw2, gb9, z39, hsp, htm, hk0])
      (case hadd => first | assumption | exact adds_self _ | (simp; done))
      try simp (disch := first | omega | (simp; done) | fail) [wrap64c, if_pos, if_neg, ntv, csv, ntw, csw, hbig, nts1, css1, gs, nts2, css2, gt, lu3, lu4, hc', hc2, e0, e1, e6, e7, e10, e11, e12, e14, e16, e17, e18, e19, e20, e21, hlt', e20', e22, e109, e110, e111, hlq, y1', y3, y4, y5, z1', z3, z4, z5, ntw1, csw1, ntw2, csw2, gb9, z39, hsp, htm, hk0]
      refine loopK_next _ ?hm ?hf ⟨q + 1, rfl, (by rw [hss]; simp), (by simp (disch := first | omega | (simp; done) | fail) [wrap64c, if_pos, if_neg, ntv, csv, ntw, csw, hbig, nts1, css1, gs, nts2, css2, gt, lu3, lu4, hc', hc2, e0, e1, e6, e7, e10, e11, e12, e14, e16, e17, e18, e19, e20, e21, hlt', e20', e22, e109, e110, e111, hlq, y1', y3, y4, y5, z1', z3, z4, z5, ntw1, csw1, ntw2, csw2, gb9, z39, hsp, htm, hk0] <;> omega), (by first | omega | assumption | (simp (disch := first | omega | (simp; done) | fail) [wrap64c, if_pos, if_neg, ntv, csv, ntw, csw, hbig, nts1, css1, gs, nts2, css2, gt, lu3, lu4, hc', hc2, e0, e1, e6, e7, e10, e11, e12, e14, e16, e17, e18, e19, e20, e21, hlt', e20', e22, e109, e110, e111, hlq, y1', y3, y4, y5, z1', z3, z4, z5, ntw1, csw1, ntw2, csw2, gb9, z39, hsp, htm, hk0] <;> omega)), (hd.trans k9)⟩
      (case hm => first | omega | (simp; omega))
      (case hf => simp [FrameL, ntv, csv, ntw, csw, hbig, nts1, css1, gs, nts2, css2, gt, lu3, lu4, hc', hc2, e0, e1, e6, e7, e10, e11, e12, e14, e16, e17, e18, e19, e20, e21, hlt', e20', e22, e109, e110, e111, hlq, y1', y3, y4, y5, z1', z3, z4, z5, ntw1, csw1, ntw2, csw2, gb9, z39, hsp, htm, hk0, f0_1, f1_1, f6_1, f7_1, f10_1, f12_1, f14_1, f16_1, f17_1, f18_1, f19_1, f20_1, f109_1, f110_1])
    · have hqe : q = SL.length := by omega
      have hsa : kSum mz SL q = upN mz * facN mz := by rw [hqe, kSum_all, hSL, kept_sum m1 m3]
      rw [hsa] at e22
      have hum : ((upN mz : Nat) : Int) * ((facN mz : Nat) : Int) = ((upN mz * facN mz : Nat) : Int) := by simp
      have hul : upN mz ≤ 16384 := Nat.le_trans (List.length_filter_le _ _) (spacesL_le m1 (by omega))
      have hup : upN mz * facN mz ≤ 16384 * 6 := Nat.mul_le_mul hul (fac_le m3)
      obtain ⟨up, hupe⟩ : ∃ u, u = upN mz * facN mz := ⟨_, rfl⟩
      rw [← hupe] at hum hup e22
      have hum' := hum
      have e22' := e22
      rename Hp => h9
      have K9 := K8.trans hd.1
      have gs : h9.get h2.next = .cells [.int .i64 (atN N r), s1] true true 1 := by rw [hd.1.2 _ (by omega)]; exact gs
      try simp (disch := first | omega | (simp; done) | fail) [wrap64c, if_pos, if_neg, ntv, csv, ntw, csw, hbig, nts1, css1, gs, nts2, css2, gt, lu3, lu4, hc', hc2, e0, e1, e6, e7, e10, e11, e12, e14, e16, e17, e18, e19, e20, e21, hlt', e20', e22, e109, e110, e111, hlq, hum', e22']
      obtain ⟨g0, hg0⟩ : ∃ x, x = h9 := ⟨_, rfl⟩
      have K0 := K9
      rw [← hg0] at K0
      have hv := (hv.keep hd.1)
      have hw := (hw.keep hd.1)
      have hu1 := (hu1.keep hd.1)
      rw [← hg0] at hv
      rw [← hg0] at hw
      rw [← hg0] at hu1
      have lobgs : h2.next < g0.next := by rw [hg0]; omega
      have gs : g0.get h2.next = .cells [.int .i64 (atN N r), s1] true true 1 := by rw [hg0]; exact gs
      try rw [← hg0]
      obtain ⟨_, g1, p1, a1, kk, rfl⟩ := drawCountSpaces_ok g0 w ys (bytes_old hw)
      refine callG_c (by simp) (by simp) ?ha (p1) ?_
      (case ha => simp (disch := first | omega | (simp; done) | fail) [wrap64c, if_pos, if_neg, ntv, csv, ntw, csw, hbig, nts1, css1, gs, nts2, css2, gt, lu3, lu4, hc', hc2, e0, e1, e6, e7, e10, e11, e12, e14, e16, e17, e18, e19, e20, e21, hlt', e20', e22, e109, e110, e111, hlq, hum', e22'])
      have n1 := a1.1.1
      have K1 := K0.trans a1.1
      have gs : g1.get h2.next = .cells [.int .i64 (atN N r), s1] true true 1 := by rw [a1.1.2 _ (by omega)]; exact gs
      have hv := hv.keep a1.1
      have hw := hw.keep a1.1
      have hu1 := hu1.keep a1.1
      try simp (disch := first | omega | (simp; done) | fail) [wrap64c, if_pos, if_neg, ntv, csv, ntw, csw, hbig, nts1, css1, gs, nts2, css2, gt, lu3, lu4, hc', hc2, e0, e1, e6, e7, e10, e11, e12, e14, e16, e17, e18, e19, e20, e21, hlt', e20', e22, e109, e110, e111, hlq, hum', e22']
      obtain ⟨bk, hbk⟩ : ∃ b : Bool, b = decide (1 ≤ kk ∧ kk ≤ 4) := ⟨_, rfl⟩
      have pk1 := implCount_ok g1 kk
      have pk2 := specCount_ok g1 kk
      rw [← hbk] at pk1 pk2
      refine callG_c (by simp) (by simp) ?ha (pk1) ?_
      (case ha => simp (disch := first | omega | (simp; done) | fail) [wrap64c, if_pos, if_neg, ntv, csv, ntw, csw, hbig, nts1, css1, gs, nts2, css2, gt, lu3, lu4, hc', hc2, e0, e1, e6, e7, e10, e11, e12, e14, e16, e17, e18, e19, e20, e21, hlt', e20', e22, e109, e110, e111, hlq, hum', e22'])
      try simp (disch := first | omega | (simp; done) | fail) [wrap64c, if_pos, if_neg, ntv, csv, ntw, csw, hbig, nts1, css1, gs, nts2, css2, gt, lu3, lu4, hc', hc2, e0, e1, e6, e7, e10, e11, e12, e14, e16, e17, e18, e19, e20, e21, hlt', e20', e22, e109, e110, e111, hlq, hum', e22']
      refine callG_c (by simp) (by simp) ?ha (pk2) ?_
      (case ha => simp (disch := first | omega | (simp; done) | fail) [wrap64c, if_pos, if_neg, ntv, csv, ntw, csw, hbig, nts1, css1, gs, nts2, css2, gt, lu3, lu4, hc', hc2, e0, e1, e6, e7, e10, e11, e12, e14, e16, e17, e18, e19, e20, e21, hlt', e20', e22, e109, e110, e111, hlq, hum', e22'])
      try simp (disch := first | omega | (simp; done) | fail) [wrap64c, if_pos, if_neg, ntv, csv, ntw, csw, hbig, nts1, css1, gs, nts2, css2, gt, lu3, lu4, hc', hc2, e0, e1, e6, e7, e10, e11, e12, e14, e16, e17, e18, e19, e20, e21, hlt', e20', e22, e109, e110, e111, hlq, hum', e22']
      obtain ⟨_, g2, p2, a2, uu, rfl⟩ := drawCountUp_ok g1 v xs (bytes_old hv)
      refine callG_c (by simp) (by simp) ?ha (p2) ?_
      (case ha => simp (disch := first | omega | (simp; done) | fail) [wrap64c, if_pos, if_neg, ntv, csv, ntw, csw, hbig, nts1, css1, gs, nts2, css2, gt, lu3, lu4, hc', hc2, e0, e1, e6, e7, e10, e11, e12, e14, e16, e17, e18, e19, e20, e21, hlt', e20', e22, e109, e110, e111, hlq, hum', e22'])
      have n2 := a2.1.1
      have K2 := K1.trans a2.1
      have gs : g2.get h2.next = .cells [.int .i64 (atN N r), s1] true true 1 := by rw [a2.1.2 _ (by omega)]; exact gs
      have hv := hv.keep a2.1
      have hw := hw.keep a2.1
      have hu1 := hu1.keep a2.1
      try simp (disch := first | omega | (simp; done) | fail) [wrap64c, if_pos, if_neg, ntv, csv, ntw, csw, hbig, nts1, css1, gs, nts2, css2, gt, lu3, lu4, hc', hc2, e0, e1, e6, e7, e10, e11, e12, e14, e16, e17, e18, e19, e20, e21, hlt', e20', e22, e109, e110, e111, hlq, hum', e22']
      obtain ⟨bu, hbu⟩ : ∃ b : Bool, b = decide (1 ≤ uu ∧ uu ≤ 4) := ⟨_, rfl⟩
      have pu1 := implUp_ok g2 uu
      have pu2 := specUp_ok g2 uu
      rw [← hbu] at pu1 pu2
      refine callG_c (by simp) (by simp) ?ha (pu1) ?_
      (case ha => simp (disch := first | omega | (simp; done) | fail) [wrap64c, if_pos, if_neg, ntv, csv, ntw, csw, hbig, nts1, css1, gs, nts2, css2, gt, lu3, lu4, hc', hc2, e0, e1, e6, e7, e10, e11, e12, e14, e16, e17, e18, e19, e20, e21, hlt', e20', e22, e109, e110, e111, hlq, hum', e22'])
      try simp (disch := first | omega | (simp; done) | fail) [wrap64c, if_pos, if_neg, ntv, csv, ntw, csw, hbig, nts1, css1, gs, nts2, css2, gt, lu3, lu4, hc', hc2, e0, e1, e6, e7, e10, e11, e12, e14, e16, e17, e18, e19, e20, e21, hlt', e20', e22, e109, e110, e111, hlq, hum', e22']
      refine callG_c (by simp) (by simp) ?ha (pu2) ?_
      (case ha => simp (disch := first | omega | (simp; done) | fail) [wrap64c, if_pos, if_neg, ntv, csv, ntw, csw, hbig, nts1, css1, gs, nts2, css2, gt, lu3, lu4, hc', hc2, e0, e1, e6, e7, e10, e11, e12, e14, e16, e17, e18, e19, e20, e21, hlt', e20', e22, e109, e110, e111, hlq, hum', e22'])
      by_cases hb : atB N r = true
      case neg =>
        have hb' : atB N r = false := by simpa using hb
        try simp (disch := first | omega | (simp; done) | fail) [wrap64c, if_pos, if_neg, ntv, csv, ntw, csw, hbig, nts1, css1, gs, nts2, css2, gt, lu3, lu4, hc', hc2, e0, e1, e6, e7, e10, e11, e12, e14, e16, e17, e18, e19, e20, e21, hlt', e20', e22, e109, e110, e111, hlq, hum', e22', hb']
        exact done_ret rfl (by simp [K2])
      have hb' := hb
      obtain ⟨n, rk, rfl, rfl, n1', n3', hrk⟩ := at_of hb
      have eN : atN (n : Int) (rk : Int) = (n : Int) := by rw [atN, if_pos hb]
      have eX : atX (n : Int) (rk : Int) = toN (spacesL n)[rk] := by rw [atX, if_pos hb]; simp [hrk]
      rw [eN, eX] at hu1
      have eN' := eN
      have gd := spacesL_good (List.getElem_mem hrk)
      have hsp : spB (n : Int) (toN (spacesL n)[rk]) = true := spB_of gd
      have hrr : rankR (n : Int) (toN (spacesL n)[rk]) = (rk : Int) := by rw [rankR, if_pos ⟨hsp, by omega⟩, natsOf_toN]; simp [(spacesL_nodup n1').idxOf_getElem]
      have hn3 : (n : Int) ≤ 3 := by omega
      try simp (disch := first | omega | (simp; done) | fail) [wrap64c, if_pos, if_neg, ntv, csv, ntw, csw, hbig, nts1, css1, gs, nts2, css2, gt, lu3, lu4, hc', hc2, e0, e1, e6, e7, e10, e11, e12, e14, e16, e17, e18, e19, e20, e21, hlt', e20', e22, e109, e110, e111, hlq, hum', e22', hb', eN', hsp, hrr, hn3]
      refine callG_c (by simp) (by simp) ?ha (implRank_ok g2 _ _ _ hu1 (good_lt gd)) ?_
      (case ha => simp (disch := first | omega | (simp; done) | fail) [wrap64c, if_pos, if_neg, ntv, csv, ntw, csw, hbig, nts1, css1, gs, nts2, css2, gt, lu3, lu4, hc', hc2, e0, e1, e6, e7, e10, e11, e12, e14, e16, e17, e18, e19, e20, e21, hlt', e20', e22, e109, e110, e111, hlq, hum', e22', hb', eN', hsp, hrr, hn3])
      try simp (disch := first | omega | (simp; done) | fail) [wrap64c, if_pos, if_neg, ntv, csv, ntw, csw, hbig, nts1, css1, gs, nts2, css2, gt, lu3, lu4, hc', hc2, e0, e1, e6, e7, e10, e11, e12, e14, e16, e17, e18, e19, e20, e21, hlt', e20', e22, e109, e110, e111, hlq, hum', e22', hb', eN', hsp, hrr, hn3]
      exact done_ret rfl (by simp [K2])
end Go.Proofs.Ytnncipcldbopgaa
namespace Go.Proofs.Ytnncipcldbopgaa
set_option linter.unusedSimpArgs false
set_option linter.unusedVariables false
open Go Go.Eng Go.ChangeShapes Go.WideShapes Go.ChangeAt Go.RowKit Go.Joins
set_option maxRecDepth 100000 in
theorem allSpacesCounted_lifted (os : Os) (started : os.Started) (H : Type) (enc : TypeId × Value → H) :
    ReturnsInHanded {} Try.checked os 4 .any (Rows.fnAllSpacesCountedSpec.pre6 enc Try.prog Try.f4 Rows.fnAllSpacesCountedRow.domain false) (Rows.fnAllSpacesCountedSpec.post enc Try.prog Try.f4 false true false false) := by
  refine returnsInHanded_of_change (C := Try.checked) own started (by kernel_rfl) Try.func4
    (ChangeSpec.witness6 (enc := enc) (C := Try.checked) false ⟨#[], #[.slice none 0 0, .slice none 0 0], []⟩ 8 (by kernel_rfl) (by kernel_rfl) (by kernel_rfl) (by kernel_rfl)) ?_
  intro W base args ds gs before hval0 hW hcnd _
  have hval : ∀ (j : Nat) t v, Try.f4.params[j]? = some t → args[j]? = some v → Value.okWide Try.prog W .any base t v := hval0
  have hW' := hW
  obtain ⟨p, q, hA0, hV, rfl, hfz, hnd⟩ := hW
  have hA : DataW.TrodAll enc Try.prog W 0 (fun _ => true) true Try.f4.params.toList args.toList ds p := hA0
  rw [Try.params4] at hA hval
  obtain ⟨v0, v1, d0, d1, p0, p1, rfl, rfl, rfl, h0, h1⟩ := trodAll_two hA
  obtain ⟨rfl, rfl⟩ := trodVars_none hV
  simp only [List.append_nil] at hW'
  have lt0 : ∀ x ∈ p0, x.block < W.heap.size := by obtain ⟨m, hm⟩ := h0; exact DataW.trod_lt m _ _ _ hm
  have lt1 : ∀ x ∈ p1, x.block < W.heap.size := by obtain ⟨m, hm⟩ := h1; exact DataW.trod_lt m _ _ _ hm
  obtain ⟨E0, hh0, a0, X0, st0, m0, hva0, hc0⟩ := lay_bytes (hval 0 22 v0 rfl rfl) h0 (start0 W)
  obtain ⟨E1, hh1, a1, X1, st1, m1, hva1, hc1⟩ := lay_bytes (hval 1 22 v1 rfl rfl) h1 st0
  replace hva0 := m1.vrel _ _ hva0
  replace hc0 := hc0.keep m1.keep
  refine (law_calls (args := #[a0, a1]) (args' := #[v0, v1]) st1 rfl (fun i hi => ?_) (lawAllSpacesCounted_ok hh1 a0 X0 hc0 a1 X1 hc1) rfl).mono fun e W' ⟨he, bel⟩ => ?_
  · have : i = 0 ∨ i = 1 := by simp at hi; omega
    rcases this with rfl | rfl
    · exact hva0
    · exact hva1
  · subst he
    exact ⟨_, rfl, _, _, _, [], _, [], hW', trodAll_mk1 (shut_bool Try.underlying4 _), trodAll_mk2 (Below.trod laidOut (by kernel_rfl) (of_decide_eq_true (by kernel_rfl)) h0 bel lt0) (Below.trod laidOut (by kernel_rfl) (of_decide_eq_true (by kernel_rfl)) h1 bel lt1), rfl, bel.frame _, fun h => by cases h⟩
theorem allSpacesCounted_holds : Rows.FnAllSpacesCountedSaid :=
  OpenClaim.holds_of_wide 4 Try.f4 rfl rfl rfl rfl rfl rfl rfl ⟨rfl, rfl, rfl, rfl, rfl⟩ rfl rfl rfl rfl rfl (by kernel_rfl) Try.func4 (by kernel_rfl)
    (of_decide_eq_true (by kernel_rfl)) (by unfold Func.isWrapper; first | (rw [if_pos (by decide +kernel)]; kernel_rfl) | (rw [if_neg (by decide +kernel)]; exact ⟨rfl, rfl⟩))
    (fun os started H enc _ => allSpacesCounted_lifted os started H enc)
end Go.Proofs.Ytnncipcldbopgaa
