/- All spaces, each with its own object. -/
import Derived.Test.YtnjabaeajjhliaaT18
import Derived.Test.YtnjabaeajjhliaaT19
namespace Go.Proofs.Ytnjabaeajjhliaa
set_option linter.unusedSimpArgs false
set_option linter.unusedVariables false
set_option maxHeartbeats 4000000
open Go Go.Eng
attribute [local irreducible] WD RunD PreD Runs CallOK

/-- A space of n items as an element of a list, with the object that its sets lie in. -/
def spP (n : Nat) (F : Nat → Prop) (h : Hp) (u : List Value) (p : Nat × List Nat) : Prop := (∃ w, u = [.int .i64 (n : Int), w] ∧ IntsO (fun x => x = p.1) h w (toN p.2)) ∧ F p.1 ∧ p.1 < h.next
theorem spP_steady (n : Nat) : Steady (spP n) where
  mono F G h h' u p := by
    rintro ⟨⟨w, rfl, hw⟩, hF, hl⟩ hfg hk
    exact ⟨⟨w, rfl, hw.same ⟨hk.1, fun o ho hl => hk.2 o (by rw [show o = p.1 from ho]; exact hF) hl⟩⟩, hfg _ hF, Nat.lt_of_lt_of_le hl hk.1⟩
  low F h u p := by
    rintro ⟨hw, hF, hl⟩
    exact ⟨hw, ⟨hF, hl⟩, hl⟩
theorem spP.spO {n : Nat} {F : Nat → Prop} {h : Hp} {u : List Value} {p : Nat × List Nat} (hs : spP n F h u p) : spO n F h u p.2 := by
  obtain ⟨⟨w, rfl, hw⟩, hF, _⟩ := hs
  exact ⟨w, rfl, hw.sub fun o ho => by rw [show o = p.1 from ho]; exact hF⟩
theorem spP_below {n B : Nat} {h : Hp} {v : Value} {L : List (Nat × List Nat)} (hs : GL 2 (spP n) B h v L) : ∀ p ∈ L, p.1 < h.next := by
  rcases hs with ⟨rfl, _⟩ | ⟨o, ex, cs, rfl, h1, h2, h3, h4, h5⟩
  · intro p hp; cases hp
  · intro p hp
    obtain ⟨k, hk, rfl⟩ := List.getElem_of_mem hp
    exact (h5 k hk).2.2
theorem ia_one {n : Nat} {h : Hp} {v : Value} {xs : List Int} (hs : IntsA n h v xs) (hne : xs ≠ []) (hl : xs.length < 2 ^ 63) : ∃ o, n ≤ o ∧ o < h.next ∧ IntsO (fun x => x = o) h v xs := by
  rcases hs with ⟨e, _⟩ | ⟨o, ex, rfl, h1, h2, h3⟩
  · exact absurd e hne
  · exact ⟨o, h1, h2, some ⟨o, 0, none⟩, xs.length, rfl, Nat.le_refl _, hl, .inr ⟨o, 0, _, ex, rfl, rfl, h2, h3, by simp, fun k hk => by simp [List.getElem?_eq_getElem hk]⟩⟩
theorem appQ {n B o : Nat} {h0 hq h : Hp} {v w : Value} {L : List (Nat × List Nat)} {xs : List Nat} (hs : GL 2 (spP n) B hq v L) (hk : Keeps hq h) (hw : IntsO (fun x => x = o) h w (toN xs)) (ho : hq.next ≤ o ∧ o < h.next) (hl : L.length < 2 ^ 39) (hB : B ≤ hq.next) (hA : Adds h0 h) (h0n : h0.next ≤ B) :
    ∃ v' h', appendD Try.prog 25 25 v (.slice (some ⟨h.next, 0, none⟩) 1 1) (h.alloc (.cells [.int .i64 (n : Int), w] true true 2)) = some (v', h') ∧ GL 2 (spP n) B h' v' (L ++ [(o, xs)]) ∧ Adds h0 h' ∧ h.next < h'.next := by
  have k2 : Adds h (h.alloc (.cells [.int .i64 (n : Int), w] true true 2)) := (by first | exact aK | exact kK)
  obtain ⟨v', h', g1, g2, g3, g4, g5⟩ := GL.append (P := Try.prog) (t := 25) (t' := 25) (z := .agg #[.int .i64 0, .slice none 0 0]) (b := 32) (e := 32) (K := [(o, xs)]) (ys := [.int .i64 (n : Int), w]) (F := fun x => hq.next ≤ x ∧ x < h.next) (y := .slice (some ⟨h.next, 0, none⟩) 1 1) (h0 := h0) (spP_steady n)
    (hs.keep (spP_steady n) (hk.trans k2.1)) (by simp [srcV, srcW]) rfl (fun k hk' => by
      have : k = 0 := by simp at hk'; exact hk'
      subst this
      exact ⟨⟨w, rfl, hw.keep k2.1⟩, ho, by simp; omega⟩)
    (fun x hx => ⟨by omega, by simp; omega, fun hob => by have := (hs.obj hob).2; omega⟩) (by simp) (by simp) (by simp) rfl (by simp) (by decide) (by decide) (by simp) (by simp; omega) (by simp; have := hk.1; omega) (hA.trans k2) h0n
  exact ⟨v', h', g1, g2, g3, by simp at g4; omega⟩
theorem cmpP_swo : Go.Sort.SWO (Go.Proofs.ltOf fun a b : Nat × List Nat => cmpN a.2 b.2) where
  irrefl x := cmpN_swo.irrefl x.2
  trans x y z := cmpN_swo.trans x.2 y.2 z.2
  ntrans x y z := cmpN_swo.ntrans x.2 y.2 z.2
theorem spaces2_ok (h : Hp) (n : Nat) (p1 : 1 ≤ n) (p4 : n ≤ 4) :
    ∃ v' h', CallOK Try.prog 65 #[.int .i64 (n : Int)] h v' h' ∧ Adds h h' ∧ ∃ Lp : List (Nat × List Nat), GL 2 (spP n) h.next h' v' Lp ∧ Lp.map (·.2) = spacesL n ∧ (Lp.map (·.1)).Nodup := by
  refine callY_L (args := [.int .i64 (n : Int)]) 55 _ [.tmp 2] Try.func65 rfl rfl rfl ?_
  have hb16 : 2 ≤ bit n ∧ bit n ≤ 16 := ⟨bit_mono (i := 1) p1, bit_mono (j := 4) p4⟩
  have hbb : bit (bit n - 2) ≤ 16384 := bit_mono (j := 14) (by omega)
  have hbp := bit_pos (bit n - 2)
  have hu1 : IntKind.wrap .u64 (((bit n : Nat) : Int) - 2) = ((bit n - 2 : Nat) : Int) := by rw [wrapU64 _ (by omega) (by omega)]; omega
  have hu2 : IntKind.wrap .i64 (((bit n : Nat) : Int) - 1) = ((bit n - 1 : Nat) : Int) := by rw [wrap64c _ (by omega) (by omega)]; omega
  try simp (disch := first | omega | (simp; done) | fail) [wrap64c, if_pos, if_neg, opAnd, opOr, opXor, opDiff, opShr, opBit, hu1, hu2]
  refine WD_drawC 5 rfl (by kernel_rfl) ?_
  try simp (disch := first | omega | (simp; done) | fail) [wrap64c, if_pos, if_neg, opAnd, opOr, opXor, opDiff, opShr, opBit, hu1, hu2, opBitU]
  refine WD_loopC [0, 4, 15] (fun m tm h' => ∃ f u Lp, m = bit (bit n - 2) - f ∧ tm 3 = u ∧ tm 16 = .int .i64 (f : Int) ∧ (f ≤ bit (bit n - 2)) ∧ (Adds h h') ∧ (GL 2 (spP n) h.next h' u Lp) ∧ (Lp.map (·.2) = candK n f) ∧ ((Lp.map (·.1)).Nodup)) _ ⟨0, _, [], rfl, (by simp (disch := first | omega | (simp; done) | fail) [wrap64c, if_pos, if_neg, opAnd, opOr, opXor, opDiff, opShr, opBit, hu1, hu2]), (by simp (disch := first | omega | (simp; done) | fail) [wrap64c, if_pos, if_neg, opAnd, opOr, opXor, opDiff, opShr, opBit, hu1, hu2]), (by first | omega | assumption | (simp (disch := first | omega | (simp; done) | fail) [wrap64c, if_pos, if_neg, opAnd, opOr, opXor, opDiff, opShr, opBit, hu1, hu2] <;> omega)), (by first | exact aK | exact kK), (.lit (ex := true) (Nat.le_refl _) (by simp) (by simp)), (by rfl), (by simp)⟩ ?_
  rintro m tm h' hFr ⟨f, u, Lp, rfl, e3, e16, hm, ha, hu, hcm, hnd⟩
  simp only [FrameL] at hFr
  obtain ⟨f0_0, f4_0, f15_0, -⟩ := hFr
  try simp (disch := first | omega | (simp; done) | fail) [wrap64c, if_pos, if_neg, opAnd, opOr, opXor, opDiff, opShr, opBit, hu1, hu2] at f0_0 f4_0 f15_0
  have e0 := f0_0
  have e4 := f4_0
  have e15 := f15_0
  by_cases hlt : f < bit (bit n - 2)
  · have hcl := candK_len n f
    have hcs := candK_succ n f
    have hlp : Lp.length = (candK n f).length := by rw [← hcm, List.length_map]
    have hbl := spP_below hu
    rename Hp => hq
    try simp (disch := first | omega | (simp; done) | fail) [wrap64c, if_pos, if_neg, opAnd, opOr, opXor, opDiff, opShr, opBit, hu1, hu2, e0, e3, e4, e15, e16, hlt, putCells]
    first | refine WY_heap fun h1 q_h1 => ?_ | refine callG_heap fun h1 q_h1 => ?_ | refine callP_heap fun h1 q_h1 => ?_ | refine RY_heap fun h1 q_h1 => ?_ | refine PY_heap fun h1 q_h1 => ?_ | refine doneY_heap fun h1 q_h1 => ?_ | refine loopK_heap fun h1 q_h1 => ?_ | refine thenY_heap fun h1 q_h1 => ?_ | refine thenM_heap fun h1 q_h1 => ?_
    have k1 : Adds hq h1 := by rw [q_h1]; exact (by first | exact aK | exact kK)
    have n1 : h1.next = hq.next + 2 := by simp [q_h1]
    have gb1 : h1.get (hq.next + 1) = .cells [.int .i64 (n : Int), .slice (some ⟨hq.next, 0, none⟩) 1 1] true true 1 := by simp [q_h1]
    have gl1 : h1.get hq.next = .cells [.int .i64 0] true true 1 := by simp [q_h1]
    refine WD_loopC [0, 3, 4, 5, 6, 15, 16] (fun m tm h' => ∃ x w, m = bit n - 1 - x ∧ tm 7 = .int .i64 (x : Int) ∧ (x ≤ bit n - 1 ∧ 1 ≤ x) ∧ (Adds hq h') ∧ (IntsA hq.next h' w (toN (0 :: famS f (x - 1)))) ∧ (h'.get (hq.next + 1) = .cells [.int .i64 (n : Int), w] true true 1) ∧ (OffF (fun o => o = hq.next + 1) w) ∧ (hq.next + 1 < h'.next)) _ ⟨1, .slice (some ⟨hq.next, 0, none⟩) 1 1, rfl, (by simp (disch := first | omega | (simp; done) | fail) [wrap64c, if_pos, if_neg, opAnd, opOr, opXor, opDiff, opShr, opBit, hu1, hu2, e0, e3, e4, e15, e16, hlt]), (by first | omega | assumption | (simp (disch := first | omega | (simp; done) | fail) [wrap64c, if_pos, if_neg, opAnd, opOr, opXor, opDiff, opShr, opBit, hu1, hu2, e0, e3, e4, e15, e16, hlt] <;> omega)), k1, (.inr ⟨hq.next, true, by simp, Nat.le_refl _, by omega, by simp [gl1, toN]⟩), gb1, (.mk (by omega)), (by omega)⟩ ?_
    rintro m tm h' hFr ⟨x, w, rfl, e7, hx, ha2, hw, hg, ho, hnn⟩
    simp only [FrameL] at hFr
    obtain ⟨f0_1, f3_1, f4_1, f5_1, f6_1, f15_1, f16_1, -⟩ := hFr
    try simp (disch := first | omega | (simp; done) | fail) [wrap64c, if_pos, if_neg, opAnd, opOr, opXor, opDiff, opShr, opBit, hu1, hu2, e0, e3, e4, e15, e16, hlt] at f0_1 f3_1 f4_1 f5_1 f6_1 f15_1 f16_1
    have e0 := f0_1
    have e3 := f3_1
    have e4 := f4_1
    have e5 := f5_1
    have e6 := f6_1
    have e15 := f15_1
    have e16 := f16_1
    have hfl := famS_len f (x - 1)
    by_cases hlx : x < bit n - 1
    · have hlx' : (x : Int) < ((bit n - 1 : Nat) : Int) := by omega
      have hx1 : IntKind.wrap .i64 ((x : Int) - 1) = ((x - 1 : Nat) : Int) := by rw [wrap64c _ (by omega) (by omega)]; omega
      have hfs := famS_succ f (x - 1)
      rw [show x - 1 + 1 = x by omega] at hfs
      have h01 := nShr_and01 f (x - 1)
      have hsl := nShr_le f (x - 1)
      cases hc : f.testBit (x - 1)
      · rw [hc] at h01 hfs
        have h01 := h01
        try simp (disch := first | omega | (simp; done) | fail) [wrap64c, if_pos, if_neg, opAnd, opOr, opXor, opDiff, opShr, opBit, hu1, hu2, e0, e3, e4, e15, e16, hlt, e5, e6, e7, hg, hlx', hx1, h01]
        refine loopK_next _ ?hm ?hf ⟨x + 1, w, rfl, (by simp (disch := first | omega | (simp; done) | fail) [wrap64c, if_pos, if_neg, opAnd, opOr, opXor, opDiff, opShr, opBit, hu1, hu2, e0, e3, e4, e15, e16, hlt, e5, e6, e7, hg, hlx', hx1, h01] <;> omega), (by first | omega | assumption | (simp (disch := first | omega | (simp; done) | fail) [wrap64c, if_pos, if_neg, opAnd, opOr, opXor, opDiff, opShr, opBit, hu1, hu2, e0, e3, e4, e15, e16, hlt, e5, e6, e7, hg, hlx', hx1, h01] <;> omega)), (by first | omega | assumption | (simp (disch := first | omega | (simp; done) | fail) [wrap64c, if_pos, if_neg, opAnd, opOr, opXor, opDiff, opShr, opBit, hu1, hu2, e0, e3, e4, e15, e16, hlt, e5, e6, e7, hg, hlx', hx1, h01] <;> omega)), (by rw [show x + 1 - 1 = x by omega, hfs]; exact hw), (by first | omega | assumption | (simp (disch := first | omega | (simp; done) | fail) [wrap64c, if_pos, if_neg, opAnd, opOr, opXor, opDiff, opShr, opBit, hu1, hu2, e0, e3, e4, e15, e16, hlt, e5, e6, e7, hg, hlx', hx1, h01] <;> omega)), (by first | omega | assumption | (simp (disch := first | omega | (simp; done) | fail) [wrap64c, if_pos, if_neg, opAnd, opOr, opXor, opDiff, opShr, opBit, hu1, hu2, e0, e3, e4, e15, e16, hlt, e5, e6, e7, hg, hlx', hx1, h01] <;> omega)), (by first | omega | assumption | (simp (disch := first | omega | (simp; done) | fail) [wrap64c, if_pos, if_neg, opAnd, opOr, opXor, opDiff, opShr, opBit, hu1, hu2, e0, e3, e4, e15, e16, hlt, e5, e6, e7, hg, hlx', hx1, h01] <;> omega))⟩
        (case hm => first | omega | (simp; omega))
        (case hf => simp [FrameL, hu1, hu2, e0, e3, e4, e15, e16, hlt, e5, e6, e7, hg, hlx', hx1, h01, f0_1, f3_1, f4_1, f5_1, f6_1, f15_1, f16_1])
      · rw [hc] at h01 hfs
        have h01 := h01
        have ntw := (hw.own (by simp; omega)).nt
        have csw := (hw.own (by simp; omega)).cs
        try simp (disch := first | omega | (simp; done) | fail) [wrap64c, if_pos, if_neg, opAnd, opOr, opXor, opDiff, opShr, opBit, hu1, hu2, e0, e3, e4, e15, e16, hlt, e5, e6, e7, hg, hlx', hx1, h01, ntw, csw]
        obtain ⟨w2, h2, hap, hw2, ha3, hn3, hs3⟩ := appI3 hw (x : Int) (by simp; omega) ha2.1.1 ha2 (Nat.le_refl _)
        obtain ⟨hsm, ho2⟩ := hs3 (fun o => o = hq.next + 1) (fun o e => by omega) ho
        have gb2 : h2.get (hq.next + 1) = .cells [.int .i64 (n : Int), w] true true 1 := by rw [hsm.2 _ rfl hnn]; exact hg
        have ntw2 := (hw2.own (by simp; omega)).nt
        have csw2 := (hw2.own (by simp; omega)).cs
        try simp (disch := first | omega | (simp; done) | fail) [wrap64c, if_pos, if_neg, opAnd, opOr, opXor, opDiff, opShr, opBit, hu1, hu2, e0, e3, e4, e15, e16, hlt, e5, e6, e7, hg, hlx', hx1, h01, ntw, csw, gb2, ntw2, csw2, hap, putCells]
        refine loopK_next _ ?hm ?hf ⟨x + 1, w2, rfl, (by simp (disch := first | omega | (simp; done) | fail) [wrap64c, if_pos, if_neg, opAnd, opOr, opXor, opDiff, opShr, opBit, hu1, hu2, e0, e3, e4, e15, e16, hlt, e5, e6, e7, hg, hlx', hx1, h01, ntw, csw, gb2, ntw2, csw2] <;> omega), (by first | omega | assumption | (simp (disch := first | omega | (simp; done) | fail) [wrap64c, if_pos, if_neg, opAnd, opOr, opXor, opDiff, opShr, opBit, hu1, hu2, e0, e3, e4, e15, e16, hlt, e5, e6, e7, hg, hlx', hx1, h01, ntw, csw, gb2, ntw2, csw2] <;> omega)), (by first | exact aK | exact kK), ?c_hw, (by simp), ho2, (by simp; omega)⟩
        (case hm => first | omega | (simp; omega))
        (case hf => simp [FrameL, hu1, hu2, e0, e3, e4, e15, e16, hlt, e5, e6, e7, hg, hlx', hx1, h01, ntw, csw, gb2, ntw2, csw2, f0_1, f3_1, f4_1, f5_1, f6_1, f15_1, f16_1])
        case c_hw =>
          exact (by
            rw [show x + 1 - 1 = x by omega, hfs, if_pos rfl, show (0 :: (famS f (x - 1) ++ [x])) = (0 :: famS f (x - 1)) ++ [x] from rfl, toN_snoc]
            exact ia_putoff hw2 ho2 _)
    · have hxe : x = bit n - 1 := by omega
      have hlx' : ¬ (x : Int) < ((bit n - 1 : Nat) : Int) := by omega
      rw [show x - 1 = bit n - 2 by omega] at hw hfl
      have ntw := (hw.own (by simp; omega)).nt
      have csw := (hw.own (by simp; omega)).cs
      try simp (disch := first | omega | (simp; done) | fail) [wrap64c, if_pos, if_neg, opAnd, opOr, opXor, opDiff, opShr, opBit, hu1, hu2, e0, e3, e4, e15, e16, hlt, e5, e6, e7, hg, hlx', ntw, csw]
      obtain ⟨w2, h2, hap, hw2, ha3, hn3, hs3⟩ := appI3 hw ((bit n - 1 : Nat) : Int) (by simp; omega) ha2.1.1 ha2 (Nat.le_refl _)
      obtain ⟨hsm, ho2⟩ := hs3 (fun o => o = hq.next + 1) (fun o e => by omega) ho
      have gb2 : h2.get (hq.next + 1) = .cells [.int .i64 (n : Int), w] true true 1 := by rw [hsm.2 _ rfl hnn]; exact hg
      rw [← toN_snoc] at hw2
      have hfe : 0 :: famS f (bit n - 2) ++ [bit n - 1] = famL n f := rfl
      rw [hfe] at hw2
      have hfll := famL_len n f p1
      have ntw2 := (hw2.own (by simp; omega)).nt
      have csw2 := (hw2.own (by simp; omega)).cs
      try simp (disch := first | omega | (simp; done) | fail) [wrap64c, if_pos, if_neg, opAnd, opOr, opXor, opDiff, opShr, opBit, hu1, hu2, e0, e3, e4, e15, e16, hlt, e5, e6, e7, hg, hlx', ntw, csw, gb2, ntw2, csw2, hap, putCells]
      first | refine WY_heap fun h3 q_h3 => ?_ | refine callG_heap fun h3 q_h3 => ?_ | refine callP_heap fun h3 q_h3 => ?_ | refine RY_heap fun h3 q_h3 => ?_ | refine PY_heap fun h3 q_h3 => ?_ | refine doneY_heap fun h3 q_h3 => ?_ | refine loopK_heap fun h3 q_h3 => ?_ | refine thenY_heap fun h3 q_h3 => ?_ | refine thenM_heap fun h3 q_h3 => ?_
      have k3 : Adds hq h3 := by rw [q_h3]; exact (by first | exact aK | exact kK)
      have n3 : h3.next = h2.next := by simp [q_h3]
      have gb3 : h3.get (hq.next + 1) = .cells [.int .i64 (n : Int), w2] true true 1 := by simp [q_h3]
      have hw3 : IntsA hq.next h3 w2 (toN (famL n f)) := by rw [q_h3]; exact ia_putoff hw2 ho2 _
      have hO3 := hw3.own (by simp; omega)
      refine callG_c (by simp) (by simp) ?ha (isSpace_ok h3 (.agg #[.int .i64 (n : Int), w2]) n (toN (famL n f)) (.mk hO3.ints) (by simp; omega)) ?_
      (case ha => simp (disch := first | omega | (simp; done) | fail) [wrap64c, if_pos, if_neg, opAnd, opOr, opXor, opDiff, opShr, opBit, hu1, hu2, e0, e3, e4, e15, e16, hlt, e5, e6, e7, hg, hlx', ntw, csw, gb2, ntw2, csw2, gb3])
      cases hc : spB n (toN (famL n f))
      · rw [hc] at hcs
        try simp (disch := first | omega | (simp; done) | fail) [wrap64c, if_pos, if_neg, opAnd, opOr, opXor, opDiff, opShr, opBit, hu1, hu2, e0, e3, e4, e15, e16, hlt, e5, e6, e7, hg, hlx', ntw, csw, gb2, ntw2, csw2, gb3, hc]
        refine loopK_next _ ?hm ?hf ⟨f + 1, u, Lp, rfl, (by simp (disch := first | omega | (simp; done) | fail) [wrap64c, if_pos, if_neg, opAnd, opOr, opXor, opDiff, opShr, opBit, hu1, hu2, e0, e3, e4, e15, e16, hlt, e5, e6, e7, hg, hlx', ntw, csw, gb2, ntw2, csw2, gb3, hc] <;> omega), (by simp (disch := first | omega | (simp; done) | fail) [wrap64c, if_pos, if_neg, opAnd, opOr, opXor, opDiff, opShr, opBit, hu1, hu2, e0, e3, e4, e15, e16, hlt, e5, e6, e7, hg, hlx', ntw, csw, gb2, ntw2, csw2, gb3, hc] <;> omega), (by first | omega | assumption | (simp (disch := first | omega | (simp; done) | fail) [wrap64c, if_pos, if_neg, opAnd, opOr, opXor, opDiff, opShr, opBit, hu1, hu2, e0, e3, e4, e15, e16, hlt, e5, e6, e7, hg, hlx', ntw, csw, gb2, ntw2, csw2, gb3, hc] <;> omega)), (ha.trans k3), (hu.keep (spP_steady n) k3.1), (by rw [hcs, hcm]; rfl), hnd⟩
        (case hm => first | omega | (simp; omega))
        (case hf => simp [FrameL, hu1, hu2, e0, e3, e4, e15, e16, hlt, e5, e6, e7, hg, hlx', ntw, csw, gb2, ntw2, csw2, gb3, hc, f0_0, f4_0, f15_0])
      · rw [hc] at hcs
        try simp (disch := first | omega | (simp; done) | fail) [wrap64c, if_pos, if_neg, opAnd, opOr, opXor, opDiff, opShr, opBit, hu1, hu2, e0, e3, e4, e15, e16, hlt, e5, e6, e7, hg, hlx', ntw, csw, gb2, ntw2, csw2, gb3, hc]
        obtain ⟨po, hp1, hp2, hw4⟩ := ia_one hw3 (by simp [toN, famL]) (by simp; omega)
        obtain ⟨u4, h4, hap4, hu4, ha4, hn4⟩ := appQ hu k3.1 hw4 ⟨hp1, hp2⟩ (by omega) ha.1.1 (ha.trans k3) (Nat.le_refl _)
        try simp (disch := first | omega | (simp; done) | fail) [wrap64c, if_pos, if_neg, opAnd, opOr, opXor, opDiff, opShr, opBit, hu1, hu2, e0, e3, e4, e15, e16, hlt, e5, e6, e7, hg, hlx', ntw, csw, gb2, ntw2, csw2, gb3, hc, hap4]
        refine loopK_next _ ?hm ?hf ⟨f + 1, u4, Lp ++ [(po, famL n f)], rfl, (by simp (disch := first | omega | (simp; done) | fail) [wrap64c, if_pos, if_neg, opAnd, opOr, opXor, opDiff, opShr, opBit, hu1, hu2, e0, e3, e4, e15, e16, hlt, e5, e6, e7, hg, hlx', ntw, csw, gb2, ntw2, csw2, gb3, hc] <;> omega), (by simp (disch := first | omega | (simp; done) | fail) [wrap64c, if_pos, if_neg, opAnd, opOr, opXor, opDiff, opShr, opBit, hu1, hu2, e0, e3, e4, e15, e16, hlt, e5, e6, e7, hg, hlx', ntw, csw, gb2, ntw2, csw2, gb3, hc] <;> omega), (by first | omega | assumption | (simp (disch := first | omega | (simp; done) | fail) [wrap64c, if_pos, if_neg, opAnd, opOr, opXor, opDiff, opShr, opBit, hu1, hu2, e0, e3, e4, e15, e16, hlt, e5, e6, e7, hg, hlx', ntw, csw, gb2, ntw2, csw2, gb3, hc] <;> omega)), ha4, hu4, (by rw [hcs, List.map_append, hcm]; rfl), ?c_hnd⟩
        (case hm => first | omega | (simp; omega))
        (case hf => simp [FrameL, hu1, hu2, e0, e3, e4, e15, e16, hlt, e5, e6, e7, hg, hlx', ntw, csw, gb2, ntw2, csw2, gb3, hc, f0_0, f4_0, f15_0])
        case c_hnd =>
          exact (by
            rw [List.map_append, List.nodup_append]
            refine ⟨hnd, by simp, fun x hx y hy e => ?_⟩
            obtain ⟨p, hp, rfl⟩ := List.mem_map.1 hx
            have := hbl p hp
            simp at hy; omega)
  · have hfe : f = bit (bit n - 2) := by omega
    rw [hfe] at hcm
    have hcl := candK_len n (bit (bit n - 2))
    have hlp : Lp.length = (candK n (bit (bit n - 2))).length := by rw [← hcm, List.length_map]
    have hne : Lp ≠ [] := fun e => candK_ne p1 (by omega) (show candK n (bit (bit n - 2)) = [] by rw [← hcm, e]; rfl)
    try simp (disch := first | omega | (simp; done) | fail) [wrap64c, if_pos, if_neg, opAnd, opOr, opXor, opDiff, opShr, opBit, hu1, hu2, e0, e3, e4, e15, e16, hlt]
    obtain ⟨h2, hc2, hu2, hn2, ha2, hs2⟩ := sortF_ok (P := Try.prog) Go.Proofs.Srtf.lay6 (fun w => run_aggT ty_aggT_32) (fun w => run_szT ty_szT_32) (g := 74) (enters_of Try.func74 (by kernel_rfl) rfl) (spP_steady n) (R' := fun F h u p => spF n F h u p.2) (fun a b => cmpN a.2 b.2) cmpP_swo hu hne (by omega)
      (fun F o u x hs hF => spO_ro n _ F o u x.2 hs.spO hF) (fun h' F a b x y hx hy => spF_cmp n h' F a b x.2 y.2 hx hy) (fun i j hi hj h1 h2 => by
        simp only [Go.Proofs.ltOf, decide_eq_false_iff_not] at h1 h2
        exact nodup_ix (L := Lp.map (·.2)) (by rw [hcm]; exact candK_nodup p1 (Nat.le_refl _)) (by simpa using hi) (by simpa using hj) (by simpa using cmpN_total h1 h2))
    refine callG_c (by simp) (by simp) ?ha (hc2) ?_
    (case ha => simp (disch := first | omega | (simp; done) | fail) [wrap64c, if_pos, if_neg, opAnd, opOr, opXor, opDiff, opShr, opBit, hu1, hu2, e0, e3, e4, e15, e16, hlt])
    try simp (disch := first | omega | (simp; done) | fail) [wrap64c, if_pos, if_neg, opAnd, opOr, opXor, opDiff, opShr, opBit, hu1, hu2, e0, e3, e4, e15, e16, hlt]
    refine done_ret rfl ⟨ha2 _ ha (Nat.le_refl _), _, hu2, ?_, ?_⟩
    · have hmm := List.map_mergeSort (r := fun x y : Nat × List Nat => !(Go.Proofs.ltOf (fun a b : Nat × List Nat => cmpN a.2 b.2) y x)) (s := fun x y => !(Go.Proofs.ltOf cmpN y x)) (f := fun p : Nat × List Nat => p.2) (l := Lp) (fun a _ b _ => rfl)
      exact hmm.trans (by rw [hcm]; rfl)
    · exact ((List.mergeSort_perm _ _).map _).nodup_iff.2 hnd
end Go.Proofs.Ytnjabaeajjhliaa
