/- CountBest by the program. -/
import Derived.Test.YtnjabaeajjhliaaT24
import Derived.Test.YtnjabaeajjhliaaT12
namespace Go.Proofs.Ytnjabaeajjhliaa
set_option linter.unusedSimpArgs false
set_option linter.unusedVariables false
set_option maxHeartbeats 4000000
open Go Go.Eng
attribute [local irreducible] WD RunD PreD Runs CallOK

theorem chF_mem (M : Nat → Bool) (n : Nat) : ∀ (k s : Nat), ∀ w ∈ chF M n k s, w.length = k ∧ ∀ i ∈ w, i < n
  | 0, s, w, h => by
    have : w = [] := by simpa [chF] using h
    subst this; simp
  | k + 1, s, w, h => by
    rw [chF, List.mem_flatMap] at h
    obtain ⟨i, hi, h⟩ := h
    obtain ⟨t, ht, rfl⟩ := List.mem_map.1 h
    obtain ⟨h1, h2⟩ := chF_mem M n k _ t ht
    have h3 := (mem_items.1 hi).2
    rw [outerN_bit, Bool.and_eq_true, decide_eq_true_eq] at h3
    exact ⟨by simp [h1], fun x hx => (List.mem_cons.1 hx).elim (fun e => e ▸ h3.1) (h2 x)⟩
theorem words_mem (M : Nat → Bool) (n : Nat) : ∀ w ∈ wordsF M n n [] 0, w.length = n ∧ ∀ i ∈ w, i < n := fun w hw => by
  rw [words_ch] at hw
  obtain ⟨t, ht, rfl⟩ := List.mem_map.1 hw
  simpa using chF_mem M n n 0 t ht

noncomputable def cntB (N : Int) (X : List Int) (L : List Job) : Int := if (spB N X && jobsB L N) = true then IntKind.wrap .i64 (waysF (fam (natsOf X)) N.toNat (costN L) (topN (costN L) (greedN (costN L) (natsOf X) N.toNat)) N.toNat 0 : Int) else 0

theorem countClo_ok (h : Hp) (oT oB oN n : Nat) (v u : Value) (L : List Job) (W : List Nat) (best s : Int) (gT : h.get oT = .cells [u] true true 1) (gB : h.get oB = .cells [.int .i64 best] true true 1) (gN : h.get oN = .cells [.int .i64 (IntKind.wrap .i64 s)] true true 1) (hv : Ints h v (toN W)) (hu : Jobs h u L) (gj : JobsOK L)
    (hn : L.length = n) (h0 : 0 < n) (hW : W.length = n ∧ ∀ i ∈ W, i < n) :
    ∃ v' h', CallOK Try.prog 91 #[v, .pointer (some ⟨oT, 0, none⟩), .pointer (some ⟨oB, 0, none⟩), .pointer (some ⟨oN, 0, none⟩)] h v' h' ∧ v' = .bool true ∧ h' = if topN (costN L) W = best then h.put oN (.cells [.int .i64 (IntKind.wrap .i64 (s + 1))] true true 1) else h := by
  have ntu := hu.nt
  have csu := hu.cs
  have n7 := gj.n7
  refine callY_L (args := [v, .pointer (some ⟨oT, 0, none⟩), .pointer (some ⟨oB, 0, none⟩), .pointer (some ⟨oN, 0, none⟩)]) 13 _ [.tmp 5] Try.func91 rfl rfl rfl ?_
  have gT' := gT
  try simp (disch := first | omega | (simp; done) | fail) [wrap64c, if_pos, if_neg, opAnd, opOr, opXor, opDiff, opShr, opBit, gT', gB, gN]
  refine WD_drawC 4 rfl (by kernel_rfl) ?_
  try simp (disch := first | omega | (simp; done) | fail) [wrap64c, if_pos, if_neg, opAnd, opOr, opXor, opDiff, opShr, opBit, gT', gB, gN]
  refine callP_c (by simp) (by simp) ?ha (costOf_ok h u v L W hu hv gj (fun i hi => by rw [hn]; exact hW.2 i hi) (by omega) (by omega)) ?hadd ?_
  (case ha => simp (disch := first | omega | (simp; done) | fail) [wrap64c, if_pos, if_neg, opAnd, opOr, opXor, opDiff, opShr, opBit, gT', gB, gN])
  (case hadd => first | assumption | exact adds_self _ | (simp; done))
  by_cases hc : topN (costN L) W = best
  · try simp (disch := first | omega | (simp; done) | fail) [wrap64c, if_pos, if_neg, opAnd, opOr, opXor, opDiff, opShr, opBit, gT', gB, gN, hc, putCells, wrap_succ]
    exact done_ret rfl (by simp [hc])
  · have hz : (topN (costN L) W == best) = false := by simpa using hc
    try simp (disch := first | omega | (simp; done) | fail) [wrap64c, if_pos, if_neg, opAnd, opOr, opXor, opDiff, opShr, opBit, gT', gB, gN, hc, hz]
    exact done_ret rfl (by simp [hc])

theorem implCount_ok (h : Hp) (v w : Value) (N : Int) (X : List Int) (L : List Job) (hv : Space h v N X) (hw : Jobs h w L) (hl : X.length < 2 ^ 40) :
    CallOK Try.prog 42 #[v, w] h (.tuple #[.int .i64 (cntB N X L), .bool (spB N X && jobsB L N)]) h := by
  refine callY_P 21 _ [.tmp 4, .tmp 5] Try.func42 rfl rfl rfl (by first | rfl | simp) ?_
  obtain ⟨b, rfl, hX⟩ := hv
  have ntw := hw.nt
  have csw := hw.cs
  refine WD_first ?_
  try simp (disch := first | omega | (simp; done) | fail) [wrap64c, if_pos, if_neg, opAnd, opOr, opXor, opDiff, opShr, opBit, ntw, csw]
  refine stopK_heap fun h0 q_h0 => ?_
  refine stopK_go ?_
  have k0 : Adds h h0 := by rw [q_h0]; exact (by first | exact aK | exact kK)
  have n0 : h0.next = h.next + 2 := by simp [q_h0]
  have gs0 : h0.get h.next = .cells [.int .i64 N, b] true true 1 := by simp [q_h0]
  have gw0 : h0.get (h.next + 1) = .cells [w] true true 1 := by simp [q_h0]
  have hX0 := hX.keep k0.1
  have hw0 := hw.keep k0.1
  try simp (disch := first | omega | (simp; done) | fail) [wrap64c, if_pos, if_neg, opAnd, opOr, opXor, opDiff, opShr, opBit, ntw, csw, gs0, gw0]
  refine callG_c (by simp) (by simp) ?ha (bestCost_ok h0 (.agg #[.int .i64 N, b]) w N X L (.mk hX0) hw0 hl) ?_
  (case ha => simp (disch := first | omega | (simp; done) | fail) [wrap64c, if_pos, if_neg, opAnd, opOr, opXor, opDiff, opShr, opBit, ntw, csw, gs0, gw0])
  cases c1 : (spB N X && jobsB L N)
  · try simp (disch := first | omega | (simp; done) | fail) [wrap64c, if_pos, if_neg, opAnd, opOr, opXor, opDiff, opShr, opBit, ntw, csw, gs0, gw0, c1]
    exact done_ret rfl ⟨by simp [cntB, c1], (by first | exact aK | exact kK)⟩
  · have cc := c1
    rw [Bool.and_eq_true] at cc
    obtain ⟨n, xs, hN, hXe, g⟩ := spB_true cc.1
    obtain ⟨hLN, gj⟩ := jobsB_ok cc.2
    have hNt : N = (n : Int) := hN
    have hLn : L.length = n := by omega
    have hA0 : bestC N X L = topN (costN L) (greedN (costN L) xs n) := by rw [bestC, if_pos c1, hXe, natsOf_toN, hN, Int.toNat_natCast]
    have hA : bestC (n : Int) X L = topN (costN L) (greedN (costN L) xs n) := by rw [← hNt]; exact hA0
    have hB : cntB N X L = IntKind.wrap .i64 (waysF (fam xs) n (costN L) (topN (costN L) (greedN (costN L) xs n)) n 0 : Int) := by rw [cntB, if_pos c1, hXe, natsOf_toN, hN, Int.toNat_natCast]
    have n7 := g.n7
    have n1 := g.n1
    try simp (disch := first | omega | (simp; done) | fail) [wrap64c, if_pos, if_neg, opAnd, opOr, opXor, opDiff, opShr, opBit, ntw, csw, gs0, gw0, c1, hNt, hA, putCells]
    first | refine WY_heap fun h1 q_h1 => ?_ | refine callG_heap fun h1 q_h1 => ?_ | refine callP_heap fun h1 q_h1 => ?_ | refine RY_heap fun h1 q_h1 => ?_ | refine PY_heap fun h1 q_h1 => ?_ | refine doneY_heap fun h1 q_h1 => ?_ | refine loopK_heap fun h1 q_h1 => ?_ | refine thenY_heap fun h1 q_h1 => ?_ | refine thenM_heap fun h1 q_h1 => ?_
    have k1 : Adds h0 h1 := by rw [q_h1]; exact (by first | exact aK | exact kK)
    have m1 : h1.next = h0.next + 2 := by simp [q_h1]
    have gs1 : h1.get h.next = .cells [.int .i64 N, b] true true 1 := by rw [k1.1.2 _ (by omega)]; exact gs0
    have gw1 : h1.get (h.next + 1) = .cells [w] true true 1 := by rw [k1.1.2 _ (by omega)]; exact gw0
    have gb1 : h1.get h0.next = .cells [.int .i64 (topN (costN L) (greedN (costN L) xs n))] true true 1 := by simp [q_h1, hA]
    have gn1 : h1.get (h0.next + 1) = .cells [.int .i64 0] true true 1 := by simp [q_h1]
    have hw1 := hw0.keep k1.1
    generalize hbest : topN (costN L) (greedN (costN L) xs n) = best at *
    have D : Doer (fun (s : Nat) (T : Nat → Prop) h' => (∀ o, T o → False) ∧ h1.next ≤ h'.next ∧ (∀ o, o < h1.next → o ≠ h0.next + 1 → h'.get o = h1.get o) ∧ h'.get (h0.next + 1) = .cells [.int .i64 (IntKind.wrap .i64 (s : Int))] true true 1) (fun s w => if decide (topN (costN L) w = best) = true then s + 1 else s) (fun w => w.length = n ∧ ∀ i ∈ w, i < n) h1.next (fun o => o = h0.next + 1) 91 #[.pointer (some ⟨h.next + 1, 0, none⟩), .pointer (some ⟨h0.next, 0, none⟩), .pointer (some ⟨h0.next + 1, 0, none⟩)] := {
      stab := fun s T h' h'' hp hb1 hb2 hs => ⟨hp.1, by omega, fun o ho hne => by rw [hs o (by omega) (.inl ho)]; exact hp.2.2.1 o ho hne, by rw [hs _ (by omega) (.inl (by omega))]; exact hp.2.2.2⟩
      run := fun s T h' W u hp hb1 hv hg => by
        obtain ⟨hT, p1, p2, p3⟩ := hp
        have K1 : Keeps h0 h' := ⟨by omega, fun o ho => by rw [p2 o (by omega) (by omega)]; exact k1.1.2 o ho⟩
        obtain ⟨_, h3, hc3, rfl, he⟩ := countClo_ok h' (h.next + 1) h0.next (h0.next + 1) n u w L W best s (by rw [p2 _ (by omega) (by omega)]; exact gw1) (by rw [p2 _ (by omega) (by omega)]; exact gb1) p3 hv (hw0.keep K1) gj hLn n1 hg
        refine ⟨h3, hc3, ?_, fun _ => False, ⟨fun _ hf => hf, ?_, ?_, ?_⟩, fun _ hf => hf.elim⟩
        · rw [he]
          split
          · exact (Wr.of_adds (adds_self _)).put (.inl rfl) fun _ => rfl
          · exact .of_adds (adds_self _)
        · rw [he]; split
          · simpa using p1
          · exact p1
        · intro o ho hne
          rw [he]; split
          · simp [hne, p2 o ho hne]
          · exact p2 o ho hne
        · rw [he]
          by_cases hc : topN (costN L) W = best
          · simp [hc]
          · simp [hc, p3]
      low := fun o ho => by omega
      fn := by simp }
    have hX1 : IntsF (fun x => x < h1.next ∧ ¬ x = h0.next + 1) h1 b (toN xs) := by
      rw [← hXe]; exact (((hX.old.keep k0.1).keep k1.1).sub fun o ho => by omega)
    obtain ⟨u, h2, hc2, W2, T2, P2, hT2⟩ := words_ok _ _ _ _ _ _ _ D n xs g h1 b 0 hX1 ⟨fun _ hf => hf, Nat.le_refl _, fun o ho _ => rfl, gn1⟩ (Nat.le_refl _) (words_mem _ _)
    refine callG_c (by simp) (by simp) ?ha (hc2) ?_
    (case ha => simp (disch := first | omega | (simp; done) | fail) [wrap64c, if_pos, if_neg, opAnd, opOr, opXor, opDiff, opShr, opBit, ntw, csw, gs0, gw0, c1, hNt, hA, gs1])
    rw [foldl_count] at P2
    have gc2 := P2.2.2.2
    rw [← List.countP_eq_length_filter, ← hbest, best_count g gj hLn, Nat.zero_add, hbest] at gc2
    have gc2 := gc2
    try simp (disch := first | omega | (simp; done) | fail) [wrap64c, if_pos, if_neg, opAnd, opOr, opXor, opDiff, opShr, opBit, ntw, csw, gs0, gw0, c1, hNt, hA, gs1, gc2]
    have A2 : Keeps h h2 := ⟨by have := k0.1.1; have := P2.2.1; omega, fun o ho => by rw [P2.2.2.1 o (by omega) (by omega), k1.1.2 o (by omega), k0.1.2 o ho]⟩
    exact done_ret rfl (by simp [c1, hB, A2, hbest])
end Go.Proofs.Ytnjabaeajjhliaa
