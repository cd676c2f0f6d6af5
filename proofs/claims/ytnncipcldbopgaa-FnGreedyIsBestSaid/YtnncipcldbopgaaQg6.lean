/- Part 6 of the proof of greedyIsBest_holds: what it uses of the texts that lie in the notes, merged. -/
import Derived.Test.YtnncipcldbopgaaQg5
namespace Go.Proofs.Ytnncipcldbopgaa
set_option linter.unusedSimpArgs false
set_option linter.unusedVariables false
set_option maxHeartbeats 4000000
open Go Go.Eng
attribute [local irreducible] WD RunD PreD Runs CallOK
noncomputable def gvB (N : Int) (X : List Int) (L : List Job) : Bool := spB N X && jobsB L N
theorem gvB_true {N : Int} {X : List Int} {L : List Job} (h : gvB N X L = true) : ∃ n xs, N = (n : Nat) ∧ X = toN xs ∧ SpGood n xs ∧ JobsOK L ∧ L.length = n := by
  unfold gvB at h
  rw [Bool.and_eq_true] at h
  obtain ⟨n, xs, rfl, rfl, g⟩ := spB_true h.1
  obtain ⟨h1, h2⟩ := jobsB_ok h.2
  exact ⟨n, xs, rfl, rfl, g, h2, by omega⟩
noncomputable def greedR (N : Int) (X : List Int) (L : List Job) : List Int := if gvB N X L = true then toN (greedN (costN L) (natsOf X) N.toNat) else []
theorem implGreedy_ok (h : Hp) (v w : Value) (N : Int) (X : List Int) (L : List Job) (hv : Space h v N X) (hw : Jobs h w L) (hl : X.length < 2 ^ 40) :
    ∃ v' h', CallOK Try.prog 97 #[v, w] h v' h' ∧ Adds h h' ∧ ∃ u, v' = .tuple #[u, .bool (gvB N X L)] ∧ IntsO (Btw h.next h'.next) h' u (greedR N X L) := by
  refine callY_L (args := [v, w]) 13 _ [.tmp 4, .tmp 5] Try.func97 rfl rfl rfl ?_
  obtain ⟨b, rfl, hX⟩ := hv
  have ntw := hw.nt
  have csw := hw.cs
  refine WD_first ?_
  try simp (disch := first | omega | (simp; done) | fail) [wrap64c, if_pos, if_neg, opAnd, opOr, opXor, opDiff, opShr, opBit, ntw, csw]
  refine stopK_heap fun h0 q_h0 => ?_
  refine stopK_go ?_
  have g_h0 : h0.get h.next = .cells [.int .i64 N, b] true true 1 := by simp [q_h0]
  have k_h0 : Adds h h0 := by rw [q_h0]; exact (by first | exact aK | exact kK)
  have n_h0 : h.next < h0.next := by simp [q_h0]; try omega
  have hX0 := hX.keep k_h0.1
  have hw0 := hw.keep k_h0.1
  have pt : CallOK Try.prog 177 #[.agg #[.int .i64 N, b], w] h0 (.bool (gvB N X L)) h0 := together_ok h0 (.agg #[.int .i64 N, b]) w N X L (.mk hX0) hw0 hl
  try simp (disch := first | omega | (simp; done) | fail) [wrap64c, if_pos, if_neg, opAnd, opOr, opXor, opDiff, opShr, opBit, ntw, csw, g_h0]
  refine callG_c (by simp) (by simp) ?ha (pt) ?_
  (case ha => simp (disch := first | omega | (simp; done) | fail) [wrap64c, if_pos, if_neg, opAnd, opOr, opXor, opDiff, opShr, opBit, ntw, csw, g_h0])
  cases c1 : gvB N X L
  · try simp (disch := first | omega | (simp; done) | fail) [wrap64c, if_pos, if_neg, opAnd, opOr, opXor, opDiff, opShr, opBit, ntw, csw, g_h0, c1]
    refine done_ret rfl ⟨k_h0, _, by simp [c1]; rfl, ?_⟩
    rw [greedR, if_neg (by simp [c1])]
    exact .nil _ _
  · obtain ⟨n, xs, hN, hXe, g, gj, hLn⟩ := gvB_true c1
    subst hN hXe
    obtain ⟨u, h1, hc1, ha1, hi1⟩ := best_ok h0 (.agg #[.int .i64 n, b]) w n xs L (.mk hX0) hw0 g gj hLn
    try simp (disch := first | omega | (simp; done) | fail) [wrap64c, if_pos, if_neg, opAnd, opOr, opXor, opDiff, opShr, opBit, ntw, csw, g_h0, c1]
    refine callG_c (by simp) (by simp) ?ha (hc1) ?_
    (case ha => simp (disch := first | omega | (simp; done) | fail) [wrap64c, if_pos, if_neg, opAnd, opOr, opXor, opDiff, opShr, opBit, ntw, csw, g_h0, c1])
    try simp (disch := first | omega | (simp; done) | fail) [wrap64c, if_pos, if_neg, opAnd, opOr, opXor, opDiff, opShr, opBit, ntw, csw, g_h0, c1]
    refine done_ret rfl ⟨k_h0.trans ha1, _, by simp [c1]; rfl, ?_⟩
    rw [greedR, if_pos c1, natsOf_toN]
    exact hi1.sub fun o ho => ⟨by have := ho.1; omega, ho.2⟩
theorem specGreedy_ok (h : Hp) (v w : Value) (N : Int) (X : List Int) (L : List Job) (hv : Space h v N X) (hw : Jobs h w L) (hl : X.length < 2 ^ 40) :
    ∃ v' h', CallOK Try.prog 98 #[v, w] h v' h' ∧ Adds h h' ∧ ∃ u, v' = .tuple #[u, .bool (gvB N X L)] ∧ IntsO (Btw h.next h'.next) h' u (greedR N X L) := by
  refine callY_L (args := [v, w]) 13 _ [.tmp 4, .tmp 5] Try.func98 rfl rfl rfl ?_
  obtain ⟨b, rfl, hX⟩ := hv
  have ntw := hw.nt
  have csw := hw.cs
  refine WD_first ?_
  try simp (disch := first | omega | (simp; done) | fail) [wrap64c, if_pos, if_neg, opAnd, opOr, opXor, opDiff, opShr, opBit, ntw, csw]
  refine stopK_heap fun h0 q_h0 => ?_
  refine stopK_go ?_
  have g_h0 : h0.get h.next = .cells [.int .i64 N, b] true true 1 := by simp [q_h0]
  have k_h0 : Adds h h0 := by rw [q_h0]; exact (by first | exact aK | exact kK)
  have n_h0 : h.next < h0.next := by simp [q_h0]; try omega
  have hX0 := hX.keep k_h0.1
  have hw0 := hw.keep k_h0.1
  have pt : CallOK Try.prog 184 #[.agg #[.int .i64 N, b], w] h0 (.bool (gvB N X L)) h0 := grGiven_ok h0 (.agg #[.int .i64 N, b]) w N X L (.mk hX0) hw0 hl
  try simp (disch := first | omega | (simp; done) | fail) [wrap64c, if_pos, if_neg, opAnd, opOr, opXor, opDiff, opShr, opBit, ntw, csw, g_h0]
  refine callG_c (by simp) (by simp) ?ha (pt) ?_
  (case ha => simp (disch := first | omega | (simp; done) | fail) [wrap64c, if_pos, if_neg, opAnd, opOr, opXor, opDiff, opShr, opBit, ntw, csw, g_h0])
  cases c1 : gvB N X L
  · try simp (disch := first | omega | (simp; done) | fail) [wrap64c, if_pos, if_neg, opAnd, opOr, opXor, opDiff, opShr, opBit, ntw, csw, g_h0, c1]
    refine done_ret rfl ⟨k_h0, _, by simp [c1]; rfl, ?_⟩
    rw [greedR, if_neg (by simp [c1])]
    exact .nil _ _
  · obtain ⟨n, xs, hN, hXe, g, gj, hLn⟩ := gvB_true c1
    subst hN hXe
    obtain ⟨u, h1, hc1, ha1, hi1⟩ := grGreedy_ok h0 (.agg #[.int .i64 n, b]) w n xs L (.mk hX0) hw0 g gj hLn
    try simp (disch := first | omega | (simp; done) | fail) [wrap64c, if_pos, if_neg, opAnd, opOr, opXor, opDiff, opShr, opBit, ntw, csw, g_h0, c1]
    refine callG_c (by simp) (by simp) ?ha (hc1) ?_
    (case ha => simp (disch := first | omega | (simp; done) | fail) [wrap64c, if_pos, if_neg, opAnd, opOr, opXor, opDiff, opShr, opBit, ntw, csw, g_h0, c1])
    try simp (disch := first | omega | (simp; done) | fail) [wrap64c, if_pos, if_neg, opAnd, opOr, opXor, opDiff, opShr, opBit, ntw, csw, g_h0, c1]
    refine done_ret rfl ⟨k_h0.trans ha1, _, by simp [c1]; rfl, ?_⟩
    rw [greedR, if_pos c1, natsOf_toN]
    exact hi1.sub fun o ho => ⟨by have := ho.1; omega, ho.2⟩
noncomputable def atOK (N : Int) (X : List Int) (L : List Job) (a i : Int) : Bool := gvB N X L && (oneB N X a && (decide (0 ≤ i ∧ i ≤ N - 1) && (outerN (fam (natsOf X)) N.toNat a.toNat).testBit i.toNat))
noncomputable def atC (N : Int) (X : List Int) (L : List Job) (a i : Int) : Int := if atOK N X L a i = true then costN L a.toNat i.toNat else 0
theorem implAtC_ok (h : Hp) (v w : Value) (N : Int) (X : List Int) (L : List Job) (a i : Int) (hv : Space h v N X) (hw : Jobs h w L) (hl : X.length < 2 ^ 40) :
    CallOK Try.prog 87 #[v, w, .int .i64 a, .int .i64 i] h (.tuple #[.int .i64 (atC N X L a i), .bool (atOK N X L a i)]) h := by
  refine callY_P 42 _ [.tmp 8, .tmp 9] Try.func87 rfl rfl rfl (by first | rfl | simp) ?_
  obtain ⟨b, rfl, hX⟩ := hv
  have ntw := hw.nt
  have csw := hw.cs
  refine WD_first ?_
  try simp (disch := first | omega | (simp; done) | fail) [wrap64c, if_pos, if_neg, opAnd, opOr, opXor, opDiff, opShr, opBit, ntw, csw]
  refine stopK_heap fun h0 q_h0 => ?_
  refine stopK_go ?_
  have g_h0 : h0.get h.next = .cells [.int .i64 N, b] true true 1 := by simp [q_h0]
  have k_h0 : Adds h h0 := by rw [q_h0]; exact (by first | exact aK | exact kK)
  have n_h0 : h.next < h0.next := by simp [q_h0]; try omega
  have hX0 := hX.keep k_h0.1
  have hw0 := hw.keep k_h0.1
  have K0 := k_h0.1
  have pt : CallOK Try.prog 177 #[.agg #[.int .i64 N, b], w] h0 (.bool (gvB N X L)) h0 := together_ok h0 (.agg #[.int .i64 N, b]) w N X L (.mk hX0) hw0 hl
  try simp (disch := first | omega | (simp; done) | fail) [wrap64c, if_pos, if_neg, opAnd, opOr, opXor, opDiff, opShr, opBit, ntw, csw, g_h0]
  refine callG_c (by simp) (by simp) ?ha (pt) ?_
  (case ha => simp (disch := first | omega | (simp; done) | fail) [wrap64c, if_pos, if_neg, opAnd, opOr, opXor, opDiff, opShr, opBit, ntw, csw, g_h0])
  cases c1 : gvB N X L
  · try simp (disch := first | omega | (simp; done) | fail) [wrap64c, if_pos, if_neg, opAnd, opOr, opXor, opDiff, opShr, opBit, ntw, csw, g_h0, c1]
    exact done_ret rfl (by simp [atC, atOK, c1, K0])
  · try simp (disch := first | omega | (simp; done) | fail) [wrap64c, if_pos, if_neg, opAnd, opOr, opXor, opDiff, opShr, opBit, ntw, csw, g_h0, c1]
    refine callG_c (by simp) (by simp) ?ha (isKnown_ok h0 (.agg #[.int .i64 N, b]) N X a (.mk hX0) hl) ?_
    (case ha => simp (disch := first | omega | (simp; done) | fail) [wrap64c, if_pos, if_neg, opAnd, opOr, opXor, opDiff, opShr, opBit, ntw, csw, g_h0, c1])
    cases c2 : oneB N X a
    · try simp (disch := first | omega | (simp; done) | fail) [wrap64c, if_pos, if_neg, opAnd, opOr, opXor, opDiff, opShr, opBit, ntw, csw, g_h0, c1, c2]
      exact done_ret rfl (by simp [atC, atOK, c1, c2, K0])
    · obtain ⟨n, xs, x, hN, hXe, ha, g, hx⟩ := oneB_true c2
      obtain ⟨m', xs', q1, q2, _, gj, hLn⟩ := gvB_true c1
      subst hN hXe ha
      have hLn' : L.length = n := by omega
      have n7 := g.n7
      have x128 := g.lt7 x hx
      have hwn := within_ok h0 i 0 ((n : Int) - 1)
      by_cases k1 : 0 ≤ i ∧ i ≤ (n : Int) - 1
      · rw [decide_eq_true k1] at hwn
        obtain ⟨j, rfl⟩ : ∃ j : Nat, i = (j : Int) := ⟨i.toNat, by omega⟩
        obtain ⟨_, h1, p1, o1, rfl, a1, b1, b2, r1⟩ := family_ok h0 (.agg #[.int .i64 n, b]) n xs (.mk hX0) g.lt7 (by simpa using hl)
        have K1 := K0.trans a1.1
        obtain ⟨ou, hou⟩ : ∃ q, q = outerN (fam xs) n x := ⟨_, rfl⟩
        have p2 := imOuter_ok h1 o1 (fam xs) _ _ _ x b2 r1 x128
        rw [g.outer7 x, ← hou] at p2
        have oul : ou < 128 := hou ▸ Nat.lt_of_lt_of_le (maskN_lt _ n) (bit7 n7).2
        have hsl := nShr_le ou j
        have h01 := nShr_and01 ou j
        have gb : h1.get h.next = .cells [.int .i64 n, b] true true 1 := by rw [a1.1.2 _ (by omega)]; exact g_h0
        have pc := cost_ok h1 w L x j (hw0.keep a1.1) gj x128 (by omega)
        have r0 : atOK (n : Int) (toN xs) L (x : Int) (j : Int) = ou.testBit j := by simp [atOK, c1, c2, k1, ← hou]
        cases hb : ou.testBit j
        · rw [hb] at h01 r0
          have h01 := h01
          try simp (disch := first | omega | (simp; done) | fail) [wrap64c, if_pos, if_neg, opAnd, opOr, opXor, opDiff, opShr, opBit, ntw, csw, g_h0, c1, c2, gb, h01]
          refine callG_c (by simp) (by simp) ?ha (hwn) ?_
          (case ha => simp (disch := first | omega | (simp; done) | fail) [wrap64c, if_pos, if_neg, opAnd, opOr, opXor, opDiff, opShr, opBit, ntw, csw, g_h0, c1, c2, gb, h01])
          try simp (disch := first | omega | (simp; done) | fail) [wrap64c, if_pos, if_neg, opAnd, opOr, opXor, opDiff, opShr, opBit, ntw, csw, g_h0, c1, c2, gb, h01]
          refine callG_c (by simp) (by simp) ?ha (p1) ?_
          (case ha => simp (disch := first | omega | (simp; done) | fail) [wrap64c, if_pos, if_neg, opAnd, opOr, opXor, opDiff, opShr, opBit, ntw, csw, g_h0, c1, c2, gb, h01])
          try simp (disch := first | omega | (simp; done) | fail) [wrap64c, if_pos, if_neg, opAnd, opOr, opXor, opDiff, opShr, opBit, ntw, csw, g_h0, c1, c2, gb, h01]
          refine callG_c (by simp) (by simp) ?ha (p2) ?_
          (case ha => simp (disch := first | omega | (simp; done) | fail) [wrap64c, if_pos, if_neg, opAnd, opOr, opXor, opDiff, opShr, opBit, ntw, csw, g_h0, c1, c2, gb, h01])
          try simp (disch := first | omega | (simp; done) | fail) [wrap64c, if_pos, if_neg, opAnd, opOr, opXor, opDiff, opShr, opBit, ntw, csw, g_h0, c1, c2, gb, h01]
          exact done_ret rfl (by simp [atC, r0, K1])
        · rw [hb] at h01 r0
          have h01 := h01
          try simp (disch := first | omega | (simp; done) | fail) [wrap64c, if_pos, if_neg, opAnd, opOr, opXor, opDiff, opShr, opBit, ntw, csw, g_h0, c1, c2, gb, h01]
          refine callG_c (by simp) (by simp) ?ha (hwn) ?_
          (case ha => simp (disch := first | omega | (simp; done) | fail) [wrap64c, if_pos, if_neg, opAnd, opOr, opXor, opDiff, opShr, opBit, ntw, csw, g_h0, c1, c2, gb, h01])
          try simp (disch := first | omega | (simp; done) | fail) [wrap64c, if_pos, if_neg, opAnd, opOr, opXor, opDiff, opShr, opBit, ntw, csw, g_h0, c1, c2, gb, h01]
          refine callG_c (by simp) (by simp) ?ha (p1) ?_
          (case ha => simp (disch := first | omega | (simp; done) | fail) [wrap64c, if_pos, if_neg, opAnd, opOr, opXor, opDiff, opShr, opBit, ntw, csw, g_h0, c1, c2, gb, h01])
          try simp (disch := first | omega | (simp; done) | fail) [wrap64c, if_pos, if_neg, opAnd, opOr, opXor, opDiff, opShr, opBit, ntw, csw, g_h0, c1, c2, gb, h01]
          refine callG_c (by simp) (by simp) ?ha (p2) ?_
          (case ha => simp (disch := first | omega | (simp; done) | fail) [wrap64c, if_pos, if_neg, opAnd, opOr, opXor, opDiff, opShr, opBit, ntw, csw, g_h0, c1, c2, gb, h01])
          try simp (disch := first | omega | (simp; done) | fail) [wrap64c, if_pos, if_neg, opAnd, opOr, opXor, opDiff, opShr, opBit, ntw, csw, g_h0, c1, c2, gb, h01]
          refine callG_c (by simp) (by simp) ?ha (pc) ?_
          (case ha => simp (disch := first | omega | (simp; done) | fail) [wrap64c, if_pos, if_neg, opAnd, opOr, opXor, opDiff, opShr, opBit, ntw, csw, g_h0, c1, c2, gb, h01])
          try simp (disch := first | omega | (simp; done) | fail) [wrap64c, if_pos, if_neg, opAnd, opOr, opXor, opDiff, opShr, opBit, ntw, csw, g_h0, c1, c2, gb, h01]
          exact done_ret rfl (by simp [atC, r0, K1])
      · rw [decide_eq_false k1] at hwn
        have r0 : atOK (n : Int) (toN xs) L (x : Int) i = false := by unfold atOK; rw [decide_eq_false k1]; simp
        try simp (disch := first | omega | (simp; done) | fail) [wrap64c, if_pos, if_neg, opAnd, opOr, opXor, opDiff, opShr, opBit, ntw, csw, g_h0, c1, c2]
        refine callG_c (by simp) (by simp) ?ha (hwn) ?_
        (case ha => simp (disch := first | omega | (simp; done) | fail) [wrap64c, if_pos, if_neg, opAnd, opOr, opXor, opDiff, opShr, opBit, ntw, csw, g_h0, c1, c2])
        try simp (disch := first | omega | (simp; done) | fail) [wrap64c, if_pos, if_neg, opAnd, opOr, opXor, opDiff, opShr, opBit, ntw, csw, g_h0, c1, c2]
        exact done_ret rfl (by simp [atC, r0, K0])
theorem specAtC_ok (h : Hp) (v w : Value) (N : Int) (X : List Int) (L : List Job) (a i : Int) (hv : Space h v N X) (hw : Jobs h w L) (hl : X.length < 2 ^ 40) :
    CallOK Try.prog 109 #[v, w, .int .i64 a, .int .i64 i] h (.tuple #[.int .i64 (atC N X L a i), .bool (atOK N X L a i)]) h := by
  refine callY_P 40 _ [.tmp 8, .tmp 9] Try.func109 rfl rfl rfl (by first | rfl | simp) ?_
  obtain ⟨b, rfl, hX⟩ := hv
  have ntw := hw.nt
  have csw := hw.cs
  refine WD_first ?_
  try simp (disch := first | omega | (simp; done) | fail) [wrap64c, if_pos, if_neg, opAnd, opOr, opXor, opDiff, opShr, opBit, ntw, csw]
  refine stopK_heap fun h0 q_h0 => ?_
  refine stopK_go ?_
  have g_h0 : h0.get h.next = .cells [.int .i64 N, b] true true 1 := by simp [q_h0]
  have k_h0 : Adds h h0 := by rw [q_h0]; exact (by first | exact aK | exact kK)
  have n_h0 : h.next < h0.next := by simp [q_h0]; try omega
  have hX0 := hX.keep k_h0.1
  have hw0 := hw.keep k_h0.1
  have K0 := k_h0.1
  have pt : CallOK Try.prog 184 #[.agg #[.int .i64 N, b], w] h0 (.bool (gvB N X L)) h0 := grGiven_ok h0 (.agg #[.int .i64 N, b]) w N X L (.mk hX0) hw0 hl
  try simp (disch := first | omega | (simp; done) | fail) [wrap64c, if_pos, if_neg, opAnd, opOr, opXor, opDiff, opShr, opBit, ntw, csw, g_h0]
  refine callG_c (by simp) (by simp) ?ha (pt) ?_
  (case ha => simp (disch := first | omega | (simp; done) | fail) [wrap64c, if_pos, if_neg, opAnd, opOr, opXor, opDiff, opShr, opBit, ntw, csw, g_h0])
  cases c1 : gvB N X L
  · try simp (disch := first | omega | (simp; done) | fail) [wrap64c, if_pos, if_neg, opAnd, opOr, opXor, opDiff, opShr, opBit, ntw, csw, g_h0, c1]
    exact done_ret rfl (by simp [atC, atOK, c1, K0])
  · try simp (disch := first | omega | (simp; done) | fail) [wrap64c, if_pos, if_neg, opAnd, opOr, opXor, opDiff, opShr, opBit, ntw, csw, g_h0, c1]
    refine callG_c (by simp) (by simp) ?ha (spOne_ok h0 (.agg #[.int .i64 N, b]) N X a (.mk hX0) hl) ?_
    (case ha => simp (disch := first | omega | (simp; done) | fail) [wrap64c, if_pos, if_neg, opAnd, opOr, opXor, opDiff, opShr, opBit, ntw, csw, g_h0, c1])
    cases c2 : oneB N X a
    · try simp (disch := first | omega | (simp; done) | fail) [wrap64c, if_pos, if_neg, opAnd, opOr, opXor, opDiff, opShr, opBit, ntw, csw, g_h0, c1, c2]
      exact done_ret rfl (by simp [atC, atOK, c1, c2, K0])
    · obtain ⟨n, xs, x, hN, hXe, ha, g, hx⟩ := oneB_true c2
      obtain ⟨m', xs', q1, q2, _, gj, hLn⟩ := gvB_true c1
      subst hN hXe ha
      have hLn' : L.length = n := by omega
      have n7 := g.n7
      have x128 := g.lt7 x hx
      have hwn := l1In_ok h0 i 0 ((n : Int) - 1)
      by_cases k1 : 0 ≤ i ∧ i ≤ (n : Int) - 1
      · rw [decide_eq_true k1] at hwn
        obtain ⟨j, rfl⟩ : ∃ j : Nat, i = (j : Int) := ⟨i.toNat, by omega⟩
        obtain ⟨ou, hou⟩ : ∃ q, q = outerN (fam xs) n x := ⟨_, rfl⟩
        have p2 := spOuter_ok h0 (.agg #[.int .i64 n, b]) n xs x (.mk hX0) g.n7 (by simpa using hl) g.srt x128
        rw [← hou] at p2
        have oul : ou < 128 := hou ▸ Nat.lt_of_lt_of_le (maskN_lt _ n) (bit7 n7).2
        have p3 := spIn_ok h0 ou j (by omega) (by omega)
        have pc := grCost_ok h0 w L x j hw0 gj x128 (by omega)
        have r0 : atOK (n : Int) (toN xs) L (x : Int) (j : Int) = ou.testBit j := by simp [atOK, c1, c2, k1, ← hou]
        cases hb : ou.testBit j
        · rw [hb] at p3 r0
          try simp (disch := first | omega | (simp; done) | fail) [wrap64c, if_pos, if_neg, opAnd, opOr, opXor, opDiff, opShr, opBit, ntw, csw, g_h0, c1, c2]
          refine callG_c (by simp) (by simp) ?ha (hwn) ?_
          (case ha => simp (disch := first | omega | (simp; done) | fail) [wrap64c, if_pos, if_neg, opAnd, opOr, opXor, opDiff, opShr, opBit, ntw, csw, g_h0, c1, c2])
          try simp (disch := first | omega | (simp; done) | fail) [wrap64c, if_pos, if_neg, opAnd, opOr, opXor, opDiff, opShr, opBit, ntw, csw, g_h0, c1, c2]
          refine callG_c (by simp) (by simp) ?ha (p2) ?_
          (case ha => simp (disch := first | omega | (simp; done) | fail) [wrap64c, if_pos, if_neg, opAnd, opOr, opXor, opDiff, opShr, opBit, ntw, csw, g_h0, c1, c2])
          try simp (disch := first | omega | (simp; done) | fail) [wrap64c, if_pos, if_neg, opAnd, opOr, opXor, opDiff, opShr, opBit, ntw, csw, g_h0, c1, c2]
          refine callG_c (by simp) (by simp) ?ha (p3) ?_
          (case ha => simp (disch := first | omega | (simp; done) | fail) [wrap64c, if_pos, if_neg, opAnd, opOr, opXor, opDiff, opShr, opBit, ntw, csw, g_h0, c1, c2])
          try simp (disch := first | omega | (simp; done) | fail) [wrap64c, if_pos, if_neg, opAnd, opOr, opXor, opDiff, opShr, opBit, ntw, csw, g_h0, c1, c2]
          exact done_ret rfl (by simp [atC, r0, K0])
        · rw [hb] at p3 r0
          try simp (disch := first | omega | (simp; done) | fail) [wrap64c, if_pos, if_neg, opAnd, opOr, opXor, opDiff, opShr, opBit, ntw, csw, g_h0, c1, c2]
          refine callG_c (by simp) (by simp) ?ha (hwn) ?_
          (case ha => simp (disch := first | omega | (simp; done) | fail) [wrap64c, if_pos, if_neg, opAnd, opOr, opXor, opDiff, opShr, opBit, ntw, csw, g_h0, c1, c2])
          try simp (disch := first | omega | (simp; done) | fail) [wrap64c, if_pos, if_neg, opAnd, opOr, opXor, opDiff, opShr, opBit, ntw, csw, g_h0, c1, c2]
          refine callG_c (by simp) (by simp) ?ha (p2) ?_
          (case ha => simp (disch := first | omega | (simp; done) | fail) [wrap64c, if_pos, if_neg, opAnd, opOr, opXor, opDiff, opShr, opBit, ntw, csw, g_h0, c1, c2])
          try simp (disch := first | omega | (simp; done) | fail) [wrap64c, if_pos, if_neg, opAnd, opOr, opXor, opDiff, opShr, opBit, ntw, csw, g_h0, c1, c2]
          refine callG_c (by simp) (by simp) ?ha (p3) ?_
          (case ha => simp (disch := first | omega | (simp; done) | fail) [wrap64c, if_pos, if_neg, opAnd, opOr, opXor, opDiff, opShr, opBit, ntw, csw, g_h0, c1, c2])
          try simp (disch := first | omega | (simp; done) | fail) [wrap64c, if_pos, if_neg, opAnd, opOr, opXor, opDiff, opShr, opBit, ntw, csw, g_h0, c1, c2]
          refine callG_c (by simp) (by simp) ?ha (pc) ?_
          (case ha => simp (disch := first | omega | (simp; done) | fail) [wrap64c, if_pos, if_neg, opAnd, opOr, opXor, opDiff, opShr, opBit, ntw, csw, g_h0, c1, c2])
          try simp (disch := first | omega | (simp; done) | fail) [wrap64c, if_pos, if_neg, opAnd, opOr, opXor, opDiff, opShr, opBit, ntw, csw, g_h0, c1, c2]
          exact done_ret rfl (by simp [atC, r0, K0])
      · rw [decide_eq_false k1] at hwn
        have r0 : atOK (n : Int) (toN xs) L (x : Int) i = false := by unfold atOK; rw [decide_eq_false k1]; simp
        try simp (disch := first | omega | (simp; done) | fail) [wrap64c, if_pos, if_neg, opAnd, opOr, opXor, opDiff, opShr, opBit, ntw, csw, g_h0, c1, c2]
        refine callG_c (by simp) (by simp) ?ha (hwn) ?_
        (case ha => simp (disch := first | omega | (simp; done) | fail) [wrap64c, if_pos, if_neg, opAnd, opOr, opXor, opDiff, opShr, opBit, ntw, csw, g_h0, c1, c2])
        try simp (disch := first | omega | (simp; done) | fail) [wrap64c, if_pos, if_neg, opAnd, opOr, opXor, opDiff, opShr, opBit, ntw, csw, g_h0, c1, c2]
        exact done_ret rfl (by simp [atC, r0, K0])
theorem part_le (f : Nat → Int) (M : Nat → Bool) (c : Nat → Nat → Int) (s : Nat) (lim : Int) (hlim : lim < 10000) : ∀ i, partL f M c s i ≤ lim ↔ ∃ j, j < i ∧ s.testBit j = false ∧ M (nOr s (bit j)) = true ∧ c s j ≤ lim ∧ f (nOr s (bit j)) ≤ lim
  | 0 => by simp [partL]; omega
  | i + 1 => by
    have ih := part_le f M c s lim hlim i
    rw [partL]
    by_cases hc : s.testBit i = false ∧ M (nOr s (bit i)) = true
    · rw [if_pos hc]
      have e : (if partL f M c s i < (if f (nOr s (bit i)) < c s i then c s i else f (nOr s (bit i))) then partL f M c s i else (if f (nOr s (bit i)) < c s i then c s i else f (nOr s (bit i)))) ≤ lim ↔ partL f M c s i ≤ lim ∨ (c s i ≤ lim ∧ f (nOr s (bit i)) ≤ lim) := by
        split <;> split <;> omega
      rw [e, ih]
      constructor
      · rintro (⟨j, h1, h2⟩ | h)
        · exact ⟨j, by omega, h2⟩
        · exact ⟨i, by omega, hc.1, hc.2, h⟩
      · rintro ⟨j, h1, h2, h3, h4⟩
        by_cases e : j = i
        · subst e; exact .inr h4
        · exact .inl ⟨j, by omega, h2, h3, h4⟩
    · rw [if_neg hc, ih]
      constructor
      · rintro ⟨j, h1, h2⟩
        exact ⟨j, by omega, h2⟩
      · rintro ⟨j, h1, h2, h3, h4⟩
        by_cases e : j = i
        · subst e; exact absurd ⟨h2, h3⟩ hc
        · exact ⟨j, by omega, h2, h3, h4⟩
theorem low_le {M : Nat → Bool} {n : Nat} (hn : n ≤ 7) (c : Nat → Nat → Int) {lim : Int} (h1 : -10000 ≤ lim) (h2 : lim < 10000) : ∀ k s, lowF M n c k s ≤ lim ↔ ∃ w ∈ chF M n k s, okW c lim w s = true
  | 0, s => by simp [lowF, chF, okW]; exact h1
  | k + 1, s => by
    rw [lowF, part_le _ _ _ _ _ h2]
    constructor
    · rintro ⟨j, hj, hb, hM, hcj, hf⟩
      obtain ⟨w, hw, ho⟩ := (low_le hn c h1 h2 k _).1 hf
      refine ⟨j :: w, ?_, ?_⟩
      · rw [chF, List.mem_flatMap]
        refine ⟨j, mem_items.2 ⟨by omega, ?_⟩, List.mem_map.2 ⟨w, hw, rfl⟩⟩
        rw [outerN_bit, hb, hM]; simp [hj]
      · simp [okW, hcj, ho]
    · rintro ⟨w, hw, ho⟩
      rw [chF, List.mem_flatMap] at hw
      obtain ⟨j, hj, hw⟩ := hw
      obtain ⟨t, ht, rfl⟩ := List.mem_map.1 hw
      have hj2 := (mem_items.1 hj).2
      rw [outerN_bit] at hj2
      simp at hj2
      simp [okW] at ho
      exact ⟨j, hj2.1, hj2.2.1, hj2.2.2, ho.1, (low_le hn c h1 h2 k _).2 ⟨t, ht, ho.2⟩⟩
theorem greed_ch {n : Nat} {xs : List Nat} (g : SpGood n xs) (c : Nat → Nat → Int) : greedN c xs n ∈ chF (fam xs) n n 0 := by
  have key : ∀ k, k ≤ n → (greedS c (fam xs) n k).1 ∈ chF (fam xs) n k 0 := by
    have snoc : ∀ (k s : Nat) (w : List Nat) (i : Nat), w ∈ chF (fam xs) n k s → i ∈ itemsN (outerN (fam xs) n (setW w s)) → w ++ [i] ∈ chF (fam xs) n (k + 1) s := by
      intro k
      induction k with
      | zero =>
        intro s w i hw hi
        simp [chF] at hw
        subst hw
        rw [chF, List.mem_flatMap]
        exact ⟨i, hi, by simp [chF]⟩
      | succ k ih =>
        intro s w i hw hi
        rw [chF, List.mem_flatMap] at hw
        obtain ⟨j, hj, hw⟩ := hw
        obtain ⟨t, ht, rfl⟩ := List.mem_map.1 hw
        rw [chF, List.mem_flatMap]
        exact ⟨j, hj, List.mem_map.2 ⟨t ++ [i], ih _ t i ht hi, rfl⟩⟩
    intro k
    induction k with
    | zero => intro _; simp [greedS, chF]
    | succ k ih =>
      intro hk
      have hm := (nextG_mem c (greed_ne g c (show k < n by omega))).2
      have := snoc k 0 _ _ (ih (by omega)) (by rw [greed_set]; exact hm)
      exact this
  exact key n (Nat.le_refl _)
theorem low_greedy {n : Nat} {xs : List Nat} {L : List Job} (g : SpGood n xs) (gj : JobsOK L) (hn : L.length = n) : lowF (fam xs) n (costN L) n 0 = topN (costN L) (greedN (costN L) xs n) := by
  obtain ⟨q1, q2⟩ := greedN_costs g gj hn
  obtain ⟨b1, b2⟩ := greedy_best g (c := costN L) (fun T G i h hi => costN_mono gj T G i h (by omega)) q2
  have hn1 := g.n1
  have htop : topN (costN L) (greedN (costN L) xs n) < 10000 := by
    obtain ⟨j, hj, he⟩ := topW_hit (costN L) (greedN (costN L) xs n) q2 (greedN (costN L) xs n).length (Nat.le_refl _) (by simp; omega)
    rw [List.take_length] at he
    have e2 : topN (costN L) (greedN (costN L) xs n) = costW (costN L) (greedN (costN L) xs n) j := he.symm
    rw [e2]
    unfold costW
    have hm : (greedN (costN L) xs n).getD j 0 < L.length := by
      rw [List.getD_eq_getElem?_getD, List.getElem?_eq_getElem hj]
      exact q1 _ (List.getElem_mem hj)
    have := costN_le gj (setW ((greedN (costN L) xs n).take j) 0) hm
    omega
  have iff : ∀ lim : Int, -10000 ≤ lim → lim < 10000 → (lowF (fam xs) n (costN L) n 0 ≤ lim ↔ topN (costN L) (greedN (costN L) xs n) ≤ lim) := by
    intro lim h1 h2
    rw [low_le g.n7 (costN L) h1 h2]
    constructor
    · rintro ⟨w, hw, ho⟩
      have e1 := b2 w hw
      have e2 := (topW_le (costN L) lim w 0 (-10000)).2 ⟨h1, ho⟩
      have e3 : topW (costN L) w 0 (-10000) = topN (costN L) w := rfl
      omega
    · intro h
      have e3 : topW (costN L) (greedN (costN L) xs n) 0 (-10000) = topN (costN L) (greedN (costN L) xs n) := rfl
      exact ⟨_, greed_ch g (costN L), ((topW_le (costN L) lim _ 0 (-10000)).1 (by omega)).2⟩
  have h1 := (iff _ (by omega) htop).2 (Int.le_refl _)
  have h2 := (iff (topN (costN L) (greedN (costN L) xs n) - 1) (by omega) (by omega))
  omega
theorem specPlain_ok (h : Hp) (v w : Value) (N : Int) (X : List Int) (L : List Job) (hv : Space h v N X) (hw : Jobs h w L) (hl : X.length < 2 ^ 40) :
    CallOK Try.prog 100 #[v, w] h (.tuple #[.int .i64 (bestC N X L), .bool (gvB N X L)]) h := by
  refine callY_P 16 _ [.tmp 4, .tmp 5] Try.func100 rfl rfl rfl (by first | rfl | simp) ?_
  obtain ⟨b, rfl, hX⟩ := hv
  have ntw := hw.nt
  have csw := hw.cs
  refine WD_first ?_
  try simp (disch := first | omega | (simp; done) | fail) [wrap64c, if_pos, if_neg, opAnd, opOr, opXor, opDiff, opShr, opBit, ntw, csw]
  refine stopK_heap fun h0 q_h0 => ?_
  refine stopK_go ?_
  have g_h0 : h0.get h.next = .cells [.int .i64 N, b] true true 1 := by simp [q_h0]
  have k_h0 : Adds h h0 := by rw [q_h0]; exact (by first | exact aK | exact kK)
  have n_h0 : h.next < h0.next := by simp [q_h0]; try omega
  have hX0 := hX.keep k_h0.1
  have hw0 := hw.keep k_h0.1
  have K0 := k_h0.1
  have pt : CallOK Try.prog 184 #[.agg #[.int .i64 N, b], w] h0 (.bool (gvB N X L)) h0 := grGiven_ok h0 (.agg #[.int .i64 N, b]) w N X L (.mk hX0) hw0 hl
  have eB : bestC N X L = if gvB N X L = true then topN (costN L) (greedN (costN L) (natsOf X) N.toNat) else 0 := rfl
  try simp (disch := first | omega | (simp; done) | fail) [wrap64c, if_pos, if_neg, opAnd, opOr, opXor, opDiff, opShr, opBit, ntw, csw, g_h0]
  refine callG_c (by simp) (by simp) ?ha (pt) ?_
  (case ha => simp (disch := first | omega | (simp; done) | fail) [wrap64c, if_pos, if_neg, opAnd, opOr, opXor, opDiff, opShr, opBit, ntw, csw, g_h0])
  cases c1 : gvB N X L
  · try simp (disch := first | omega | (simp; done) | fail) [wrap64c, if_pos, if_neg, opAnd, opOr, opXor, opDiff, opShr, opBit, ntw, csw, g_h0, c1]
    exact done_ret rfl (by simp [eB, c1, K0])
  · obtain ⟨n, xs, hN, hXe, g, gj, hLn⟩ := gvB_true c1
    subst hN hXe
    have hlx := g.len7
    obtain ⟨_, h2, hc2, ha2, o, cs, rfl, ho, ht1, ht2⟩ := grTable_ok h0 (.agg #[.int .i64 n, b]) w n xs L 10000 (.mk hX0) hw0 g gj hLn
    obtain ⟨hl0, hfirst⟩ := good_first g
    have hr := (ht2.2 0 hl0 (Nat.le_refl _)).1
    rw [hfirst, show pcN 0 = 0 by decide, Nat.sub_zero, low_greedy g gj hLn] at hr
    obtain ⟨wY, hwY⟩ : ∃ wY, wY = topN (costN L) (greedN (costN L) xs n) := ⟨_, rfl⟩
    rw [← hwY] at hr
    have hlc := ht2.1
    have hl1 : 0 < cs.length := by omega
    have hr1 : ∀ h2 : 0 < cs.length, cs[0] = .int .i64 wY := fun h2 => (List.getElem?_eq_some_iff.1 hr).2
    try simp (disch := first | omega | (simp; done) | fail) [wrap64c, if_pos, if_neg, opAnd, opOr, opXor, opDiff, opShr, opBit, ntw, csw, g_h0, c1, hl1, hl0, hr1, ht1]
    refine callG_c (by simp) (by simp) ?ha (hc2) ?_
    (case ha => simp (disch := first | omega | (simp; done) | fail) [wrap64c, if_pos, if_neg, opAnd, opOr, opXor, opDiff, opShr, opBit, ntw, csw, g_h0, c1, hl1, hl0, hr1, ht1])
    try simp (disch := first | omega | (simp; done) | fail) [wrap64c, if_pos, if_neg, opAnd, opOr, opXor, opDiff, opShr, opBit, ntw, csw, g_h0, c1, hl1, hl0, hr1, ht1]
    exact done_ret rfl (by simp [eB, c1, ← hwY, K0.trans ha2.1])
theorem plainClo_ok (h : Hp) (oT oA oO n : Nat) (v u : Value) (L : List Job) (W : List Nat) (any : Bool) (best : Int) (gT : h.get oT = .cells [u] true true 1) (gA : h.get oA = .cells [.bool any] true true 1) (gO : h.get oO = .cells [.int .i64 best] true true 1) (hne : oA ≠ oO) (hv : Ints h v (toN W)) (hu : Jobs h u L) (gj : JobsOK L)
    (hn : L.length = n) (h0 : 0 < n) (hW : W.length = n ∧ ∀ i ∈ W, i < n) :
    ∃ v' h', CallOK Try.prog 204 #[v, .pointer (some ⟨oT, 0, none⟩), .pointer (some ⟨oA, 0, none⟩), .pointer (some ⟨oO, 0, none⟩)] h v' h' ∧ v' = .bool true ∧ h' = if any = false ∨ topN (costN L) W < best then (h.put oO (.cells [.int .i64 (topN (costN L) W)] true true 1)).put oA (.cells [.bool true] true true 1) else h := by
  have ntu := hu.nt
  have csu := hu.cs
  have ntv := hv.nt
  have csv := hv.cs
  have n7 := gj.n7
  have hne1 := hne
  have hne2 := hne.symm
  refine callY_L (args := [v, .pointer (some ⟨oT, 0, none⟩), .pointer (some ⟨oA, 0, none⟩), .pointer (some ⟨oO, 0, none⟩)]) 18 _ [.tmp 5] Try.func204 rfl rfl rfl ?_
  have gT' := gT
  try simp (disch := first | omega | (simp; done) | fail) [wrap64c, if_pos, if_neg, opAnd, opOr, opXor, opDiff, opShr, opBit, ntu, csu, ntv, csv, hne1, hne2, gT', gA, gO]
  refine callG_c (by simp) (by simp) ?ha (costOf_ok h u v L W hu hv gj (fun i hi => by rw [hn]; exact hW.2 i hi) (by omega) (by omega)) ?_
  (case ha => simp (disch := first | omega | (simp; done) | fail) [wrap64c, if_pos, if_neg, opAnd, opOr, opXor, opDiff, opShr, opBit, ntu, csu, ntv, csv, hne1, hne2, gT', gA, gO])
  cases any
  · try simp (disch := first | omega | (simp; done) | fail) [wrap64c, if_pos, if_neg, opAnd, opOr, opXor, opDiff, opShr, opBit, ntu, csu, ntv, csv, hne1, hne2, gT', gA, gO, putCells]
    exact done_ret rfl (by simp)
  · by_cases hc : topN (costN L) W < best
    · try simp (disch := first | omega | (simp; done) | fail) [wrap64c, if_pos, if_neg, opAnd, opOr, opXor, opDiff, opShr, opBit, ntu, csu, ntv, csv, hne1, hne2, gT', gA, gO, hc, putCells]
      exact done_ret rfl (by simp [hc])
    · try simp (disch := first | omega | (simp; done) | fail) [wrap64c, if_pos, if_neg, opAnd, opOr, opXor, opDiff, opShr, opBit, ntu, csu, ntv, csv, hne1, hne2, gT', gA, gO, hc]
      exact done_ret rfl (by simp [hc])
theorem implPlain_ok (h : Hp) (v w : Value) (N : Int) (X : List Int) (L : List Job) (hv : Space h v N X) (hw : Jobs h w L) (hl : X.length < 2 ^ 40) :
    CallOK Try.prog 99 #[v, w] h (.tuple #[.int .i64 (bestC N X L), .bool (gvB N X L)]) h := by
  refine callY_P 16 _ [.tmp 4, .tmp 5] Try.func99 rfl rfl rfl (by first | rfl | simp) ?_
  obtain ⟨b, rfl, hX⟩ := hv
  have ntw := hw.nt
  have csw := hw.cs
  refine WD_first ?_
  try simp (disch := first | omega | (simp; done) | fail) [wrap64c, if_pos, if_neg, opAnd, opOr, opXor, opDiff, opShr, opBit, ntw, csw]
  refine stopK_heap fun h0 q_h0 => ?_
  refine stopK_go ?_
  have k0 : Adds h h0 := by rw [q_h0]; exact (by first | exact aK | exact kK)
  have n0 : h0.next = h.next + 2 := by simp [q_h0]
  have gs0 : h0.get h.next = .cells [.int .i64 N, b] true true 1 := by simp [q_h0]
  have gw0 : h0.get (h.next + 1) = .cells [w] true true 1 := by simp [q_h0]
  have hX0 := hX.keep k0.1
  have hw0 := hw.keep k0.1
  have pt : CallOK Try.prog 177 #[.agg #[.int .i64 N, b], w] h0 (.bool (gvB N X L)) h0 := together_ok h0 (.agg #[.int .i64 N, b]) w N X L (.mk hX0) hw0 hl
  have eB : bestC N X L = if gvB N X L = true then topN (costN L) (greedN (costN L) (natsOf X) N.toNat) else 0 := rfl
  try simp (disch := first | omega | (simp; done) | fail) [wrap64c, if_pos, if_neg, opAnd, opOr, opXor, opDiff, opShr, opBit, ntw, csw, gs0, gw0]
  refine callG_c (by simp) (by simp) ?ha (pt) ?_
  (case ha => simp (disch := first | omega | (simp; done) | fail) [wrap64c, if_pos, if_neg, opAnd, opOr, opXor, opDiff, opShr, opBit, ntw, csw, gs0, gw0])
  cases c1 : gvB N X L
  · try simp (disch := first | omega | (simp; done) | fail) [wrap64c, if_pos, if_neg, opAnd, opOr, opXor, opDiff, opShr, opBit, ntw, csw, gs0, gw0, c1]
    exact done_ret rfl ⟨by simp [eB, c1], (by first | exact aK | exact kK)⟩
  · obtain ⟨n, xs, hN, hXe, g, gj, hLn⟩ := gvB_true c1
    subst hN hXe
    have n7 := g.n7
    have n1 := g.n1
    try simp (disch := first | omega | (simp; done) | fail) [wrap64c, if_pos, if_neg, opAnd, opOr, opXor, opDiff, opShr, opBit, ntw, csw, gs0, gw0, c1, putCells]
    first | refine WY_heap fun h1 q_h1 => ?_ | refine callG_heap fun h1 q_h1 => ?_ | refine callP_heap fun h1 q_h1 => ?_ | refine callS_heap fun h1 q_h1 => ?_ | refine RY_heap fun h1 q_h1 => ?_ | refine PY_heap fun h1 q_h1 => ?_ | refine SY_heap fun h1 q_h1 => ?_ | refine doneY_heap fun h1 q_h1 => ?_ | refine loopK_heap fun h1 q_h1 => ?_ | refine thenY_heap fun h1 q_h1 => ?_ | refine thenM_heap fun h1 q_h1 => ?_
    have k1 : Adds h0 h1 := by rw [q_h1]; exact (by first | exact aK | exact kK)
    have m1 : h1.next = h0.next + 2 := by simp [q_h1]
    have gs1 : h1.get h.next = .cells [.int .i64 n, b] true true 1 := by rw [k1.1.2 _ (by omega)]; exact gs0
    have gw1 : h1.get (h.next + 1) = .cells [w] true true 1 := by rw [k1.1.2 _ (by omega)]; exact gw0
    have go1 : h1.get h0.next = .cells [.int .i64 0] true true 1 := by simp [q_h1]
    have gn1 : h1.get (h0.next + 1) = .cells [.bool false] true true 1 := by simp [q_h1]
    have hw1 := hw0.keep k1.1
    have hne : h0.next + 1 ≠ h0.next := by omega
    have D : Doer (fun (s : Option Int) (T : Nat → Prop) h' => (∀ o, T o → False) ∧ h1.next ≤ h'.next ∧ (∀ o, o < h1.next → o ≠ h0.next → o ≠ h0.next + 1 → h'.get o = h1.get o) ∧ h'.get h0.next = .cells [.int .i64 (s.getD 0)] true true 1 ∧ h'.get (h0.next + 1) = .cells [.bool s.isSome] true true 1) (fun s w => if s = none ∨ topN (costN L) w < s.getD 0 then some (topN (costN L) w) else s) (fun w => w.length = n ∧ ∀ i ∈ w, i < n) h1.next (fun o => o = h0.next ∨ o = h0.next + 1) 204 #[.pointer (some ⟨h.next + 1, 0, none⟩), .pointer (some ⟨h0.next + 1, 0, none⟩), .pointer (some ⟨h0.next, 0, none⟩)] := {
      stab := fun s T h' h'' hp hb1 hb2 hs => ⟨hp.1, by omega, fun o ho hne hne2 => by rw [hs o (by omega) (.inl ho)]; exact hp.2.2.1 o ho hne hne2, by rw [hs _ (by omega) (.inl (by omega))]; exact hp.2.2.2.1, by rw [hs _ (by omega) (.inl (by omega))]; exact hp.2.2.2.2⟩
      run := fun s T h' W u hp hb1 hv hg => by
        obtain ⟨hT, p1, p2, p3, p4⟩ := hp
        have K1 : Keeps h0 h' := ⟨by omega, fun o ho => by rw [p2 o (by omega) (by omega) (by omega)]; exact k1.1.2 o ho⟩
        obtain ⟨_, h3, hc3, rfl, he⟩ := plainClo_ok h' (h.next + 1) (h0.next + 1) h0.next n u w L W s.isSome (s.getD 0) (by rw [p2 _ (by omega) (by omega) (by omega)]; exact gw1) p4 p3 hne hv (hw0.keep K1) gj hLn n1 hg
        by_cases hc : s = none ∨ topN (costN L) W < s.getD 0
        · rw [if_pos (by rcases hc with hc | hc; exact .inl (by rw [hc]; rfl); exact .inr hc)] at he
          refine ⟨h3, hc3, ?_, fun _ => False, ⟨fun _ hf => hf, ?_, ?_, ?_, ?_⟩, fun _ hf => hf.elim⟩
          · rw [he]; exact ((Wr.of_adds (adds_self _)).put (.inl (.inl rfl)) fun _ => rfl).put (.inl (.inr rfl)) fun _ => rfl
          · rw [he]; simpa using p1
          · intro o ho hne1 hne2; rw [he]; simp [hne1, hne2, p2 o ho hne1 hne2]
          · rw [he, if_pos hc]; simp
          · rw [he, if_pos hc]; simp
        · rw [if_neg (by rintro (h | h); exact hc (.inl (by cases s with | none => rfl | some x => simp at h)); exact hc (.inr h))] at he
          subst he
          refine ⟨h3, hc3, .of_adds (adds_self _), fun _ => False, ⟨fun _ hf => hf, p1, p2, ?_, ?_⟩, fun _ hf => hf.elim⟩
          · rw [if_neg hc]; exact p3
          · rw [if_neg hc]; exact p4
      low := fun o ho => by omega
      fn := by simp }
    have hX1 : IntsF (fun x => x < h1.next ∧ ¬ (x = h0.next ∨ x = h0.next + 1)) h1 b (toN xs) := ((hX.old.keep k0.1).keep k1.1).sub fun o ho => by omega
    obtain ⟨u, h2, hc2, W2, T2, P2, hT2⟩ := words_ok _ _ _ _ _ _ _ D n xs g h1 b none hX1 ⟨fun _ hf => hf, Nat.le_refl _, fun o ho _ _ => rfl, go1, gn1⟩ (Nat.le_refl _) (words_mem _ _)
    have hfold : (wordsF (fam xs) n n [] 0).foldl (fun s w => if s = none ∨ topN (costN L) w < s.getD 0 then some (topN (costN L) w) else s) none = some (topN (costN L) (greedN (costN L) xs n)) := by
      obtain ⟨q1, q2⟩ := greedN_costs g gj hLn
      obtain ⟨b1, b2⟩ := greedy_best g (c := costN L) (fun T G i h hi => costN_mono gj T G i h (by omega)) q2
      have hm := greed_ch g (costN L)
      rw [words_ch, show (fun t : List Nat => [] ++ t) = id from funext fun _ => rfl, List.map_id]
      obtain ⟨tb, htb⟩ : ∃ t, t = topN (costN L) (greedN (costN L) xs n) := ⟨_, rfl⟩
      rw [← htb] at b1 b2 ⊢
      have key : ∀ (l : List (List Nat)) (s : Option Int), (∀ x, s = some x → tb ≤ x) → (∀ w ∈ l, tb ≤ topN (costN L) w) → (s = some tb ∨ ∃ w ∈ l, topN (costN L) w = tb) → l.foldl (fun s w => if s = none ∨ topN (costN L) w < s.getD 0 then some (topN (costN L) w) else s) s = some tb := by
        intro l
        induction l with
        | nil => intro s h1 h2 h3; rcases h3 with h3 | ⟨w, hw, _⟩; exact h3; cases hw
        | cons a l ih =>
          intro s h1 h2 h3
          rw [List.foldl_cons]
          have ha := h2 a (by simp)
          apply ih
          · intro x hx
            split at hx
            · cases hx; exact ha
            · exact h1 x hx
          · exact fun w hw => h2 w (by simp [hw])
          · by_cases hc : s = none ∨ topN (costN L) a < s.getD 0
            · rw [if_pos hc]
              rcases h3 with h3 | ⟨w, hw, he⟩
              · subst h3; rcases hc with hc | hc
                · cases hc
                · simp at hc; omega
              · rcases List.mem_cons.1 hw with rfl | hw
                · left; rw [he]
                · exact .inr ⟨w, hw, he⟩
            · rw [if_neg hc]
              rcases h3 with h3 | ⟨w, hw, he⟩
              · exact .inl h3
              · rcases List.mem_cons.1 hw with rfl | hw
                · left
                  cases s with
                  | none => exact absurd (.inl rfl) hc
                  | some x =>
                    have := h1 x rfl
                    have h5 : ¬ topN (costN L) w < x := fun h => hc (.inr h)
                    congr 1; omega
                · exact .inr ⟨w, hw, he⟩
      exact key _ none (fun x h => by cases h) b2 (.inr ⟨_, hm, htb.symm⟩)
    refine callG_c (by simp) (by simp) ?ha (hc2) ?_
    (case ha => simp (disch := first | omega | (simp; done) | fail) [wrap64c, if_pos, if_neg, opAnd, opOr, opXor, opDiff, opShr, opBit, ntw, csw, gs0, gw0, c1, gs1])
    rw [hfold] at P2
    have gc2 := P2.2.2.2.1
    simp only [Option.getD_some] at gc2
    have gc2 := gc2
    try simp (disch := first | omega | (simp; done) | fail) [wrap64c, if_pos, if_neg, opAnd, opOr, opXor, opDiff, opShr, opBit, ntw, csw, gs0, gw0, c1, gs1, gc2]
    have A2 : Keeps h h2 := ⟨by have := k0.1.1; have := P2.2.1; omega, fun o ho => by rw [P2.2.2.1 o (by omega) (by omega) (by omega), k1.1.2 o (by omega), k0.1.2 o ho]⟩
    exact done_ret rfl (by simp [eB, c1, A2])
end Go.Proofs.Ytnncipcldbopgaa
namespace Go.Proofs.Ytnncipcldbopgaa
set_option linter.unusedSimpArgs false
set_option linter.unusedVariables false
set_option maxHeartbeats 4000000
open Go Go.Eng
attribute [local irreducible] WD RunD PreD Runs CallOK
theorem ints_take {h : Hp} {v : Value} {X : List Int} (hv : Ints h v X) {o i n c : Nat} (e : v = .slice (some ⟨o, i, none⟩) n c) {k : Nat} (hk : k ≤ X.length) : Ints h (.slice (some ⟨o, i, none⟩) k c) (X.take k) := by
  obtain ⟨s, c2, e2, h1, h2, h3⟩ := hv
  rw [e] at e2
  cases e2
  refine ⟨_, _, by rw [List.length_take, Nat.min_eq_left hk], by simp; omega, h2, fun j x hj => ?_⟩
  have hj' : X[j]? = some x := by
    rw [List.getElem?_take] at hj
    split at hj
    · exact hj
    · cases hj
  exact h3 j x hj'
def ordB (R : List Int) (N : Int) : Bool := decide ((R.length : Int) = N) && (sizeB N && decide ((∀ x ∈ R, 0 ≤ x ∧ x ≤ N - 1) ∧ R.Nodup))
theorem ordB_true {R : List Int} {N : Int} (h : ordB R N = true) : ∃ n rs, N = (n : Nat) ∧ R = toN rs ∧ rs.length = n ∧ 1 ≤ n ∧ n ≤ 7 ∧ (∀ i ∈ rs, i < n) ∧ rs.Nodup := by
  unfold ordB at h
  simp only [Bool.and_eq_true, decide_eq_true_iff] at h
  obtain ⟨h1, h2, h3, h4⟩ := h
  obtain ⟨n, rfl, n1, n7⟩ := sizeB_true h2
  have hR := toN_of (X := R) fun x hx => (h3 x hx).1
  refine ⟨n, R.map Int.toNat, rfl, hR, by simp; omega, n1, n7, fun i hi => ?_, ?_⟩
  · obtain ⟨x, hx, rfl⟩ := List.mem_map.1 hi
    have := h3 x hx
    omega
  · rw [hR] at h4
    unfold toN at h4
    rw [List.nodup_iff_pairwise_ne] at h4 ⊢
    rw [List.pairwise_map] at h4
    exact h4.imp fun hne e => hne (by rw [e])
theorem ordB_of {n : Nat} {rs : List Nat} (h1 : rs.length = n) (n1 : 1 ≤ n) (n7 : n ≤ 7) (h2 : ∀ i ∈ rs, i < n) (h3 : rs.Nodup) : ordB (toN rs) (n : Int) = true := by
  unfold ordB
  simp only [Bool.and_eq_true, decide_eq_true_iff]
  refine ⟨by simp [h1], sizeB_of n1 n7, fun x hx => ?_, ?_⟩
  · obtain ⟨a, rfl, ha⟩ := mem_toN' hx
    have := h2 a ha
    omega
  · unfold toN
    rw [List.nodup_iff_pairwise_ne] at h3 ⊢
    rw [List.pairwise_map]
    exact h3.imp fun hne e => hne (by omega)
theorem nodup_toN {rs : List Nat} : (toN rs).Nodup ↔ rs.Nodup := by
  unfold toN
  rw [List.nodup_iff_pairwise_ne, List.nodup_iff_pairwise_ne, List.pairwise_map]
  exact ⟨fun h => h.imp fun hne e => hne (by rw [e]), fun h => h.imp fun hne e => hne (by omega)⟩
theorem spOrder_ok (h : Hp) (v : Value) (R : List Int) (hv : Ints h v R) : CallOK Try.prog 198 #[v] h (.bool (ordB R (R.length : Nat))) h := by
  refine callY_P 30 _ [.tmp 2] Try.func198 rfl rfl rfl (by first | rfl | simp) ?_
  have hL := hv.lenD
  have hlx := hv.len
  have ntv := hv.nt
  have csv := hv.cs
  have hOB : ordB R (R.length : Nat) = (sizeB (R.length : Nat) && (decide (∀ x ∈ R, 0 ≤ x ∧ x ≤ ((R.length : Nat) : Int) - 1) && decide R.Nodup)) := by
    unfold ordB
    rw [Bool.eq_iff_iff]; simp
  try simp (disch := first | omega | (simp; done) | fail) [wrap64c, if_pos, if_neg, opAnd, opOr, opXor, opDiff, opShr, opBit, hL, ntv, csv]
  refine callG_c (by simp) (by simp) ?ha (spItems_ok h ((R.length : Nat) : Int)) ?_
  (case ha => simp (disch := first | omega | (simp; done) | fail) [wrap64c, if_pos, if_neg, opAnd, opOr, opXor, opDiff, opShr, opBit, hL, ntv, csv])
  cases c1 : sizeB (R.length : Nat)
  · try simp (disch := first | omega | (simp; done) | fail) [wrap64c, if_pos, if_neg, opAnd, opOr, opXor, opDiff, opShr, opBit, hL, ntv, csv, c1]
    exact done_ret rfl (by simp [hOB, c1])
  · have pa := l1All_ok h v R 0 (((R.length : Nat) : Int) - 1) hv
    obtain ⟨n, hn, n1, n7⟩ := sizeB_true c1
    have hRn : R.length = n := by omega
    by_cases c2 : ∀ x ∈ R, 0 ≤ x ∧ x ≤ ((R.length : Nat) : Int) - 1
    · rw [decide_eq_true c2] at pa
      have hR := toN_of (X := R) fun x hx => (c2 x hx).1
      obtain ⟨rs, hrs⟩ : ∃ rs, rs = R.map Int.toNat := ⟨_, rfl⟩
      rw [← hrs] at hR
      have hgt := toN_get rs
      have hrl : rs.length = R.length := by rw [hrs]; simp
      try simp (disch := first | omega | (simp; done) | fail) [wrap64c, if_pos, if_neg, opAnd, opOr, opXor, opDiff, opShr, opBit, hL, ntv, csv, c1]
      refine callG_c (by simp) (by simp) ?ha (pa) ?_
      (case ha => simp (disch := first | omega | (simp; done) | fail) [wrap64c, if_pos, if_neg, opAnd, opOr, opXor, opDiff, opShr, opBit, hL, ntv, csv, c1])
      try simp (disch := first | omega | (simp; done) | fail) [wrap64c, if_pos, if_neg, opAnd, opOr, opXor, opDiff, opShr, opBit, hL, ntv, csv, c1]
      refine WD_loopC [0, 17, 18] (fun m tm h' => ∃ j, m = R.length - j ∧ h = h' ∧ tm 19 = .int .i64 (j : Int) ∧ (j ≤ R.length) ∧ ((rs.take j).Nodup)) _ ⟨0, rfl, rfl, (by simp (disch := first | omega | (simp; done) | fail) [wrap64c, if_pos, if_neg, opAnd, opOr, opXor, opDiff, opShr, opBit, hL, ntv, csv, c1]), (by first | omega | assumption | (simp (disch := first | omega | (simp; done) | fail) [wrap64c, if_pos, if_neg, opAnd, opOr, opXor, opDiff, opShr, opBit, hL, ntv, csv, c1] <;> omega)), (by simp)⟩ ?_
      rintro m tm h' hFr ⟨j, rfl, rfl, e19, hj, hd⟩
      simp only [FrameL] at hFr
      obtain ⟨f0_0, f17_0, f18_0, -⟩ := hFr
      try simp (disch := first | omega | (simp; done) | fail) [wrap64c, if_pos, if_neg, opAnd, opOr, opXor, opDiff, opShr, opBit, hL, ntv, csv, c1] at f0_0 f17_0 f18_0
      have e0 := f0_0
      have e17 := f17_0
      have e18 := f18_0
      by_cases hlt : j < R.length
      · obtain ⟨o_x, i_x, c_x, cs_x, own_x, ex_x, es_x, q_x, b_x, g_x, l_x, r_x⟩ := hv.open ((by omega))
        have z_x : ∀ h2 : i_x < cs_x.length, cs_x[i_x] = _ := fun h2 => r_x 0 ((by omega)) h2
        have ht := ints_take hv q_x (k := j) (by omega)
        rw [hR] at ht
        have htk : (toN rs).take j = toN (rs.take j) := by unfold toN; rw [List.map_take]
        rw [htk] at ht
        have hxr : R[j] = ((rs[j]'(by omega) : Nat) : Int) := by simp only [hR]; exact toN_get rs j _
        have ph := l1Has_ok h _ (rs.take j) (rs[j]'(by omega)) ht
        have htk2 : rs.take (j + 1) = rs.take j ++ [rs[j]'(by omega)] := List.take_succ_eq_append_getElem (by omega)
        have hjc : j ≤ c_x := by
          obtain ⟨_, _, q2, q3, _⟩ := hv
          rw [q_x] at q2; cases q2; omega
        by_cases hm : rs[j]'(by omega) ∈ rs.take j
        · rw [decide_eq_true hm] at ph
          try simp (disch := first | omega | (simp; done) | fail) [wrap64c, if_pos, if_neg, opAnd, opOr, opXor, opDiff, opShr, opBit, hL, ntv, csv, c1, e0, e17, e18, e19, hlt, q_x, g_x, l_x, r_x, z_x, hxr]
          refine callG_c (by simp) (by simp) ?ha (ph) ?_
          (case ha => simp (disch := first | omega | (simp; done) | fail) [wrap64c, if_pos, if_neg, opAnd, opOr, opXor, opDiff, opShr, opBit, hL, ntv, csv, c1, e0, e17, e18, e19, hlt, q_x, g_x, l_x, r_x, z_x, hxr])
          try simp (disch := first | omega | (simp; done) | fail) [wrap64c, if_pos, if_neg, opAnd, opOr, opXor, opDiff, opShr, opBit, hL, ntv, csv, c1, e0, e17, e18, e19, hlt, q_x, g_x, l_x, r_x, z_x, hxr]
          have hnd : ¬ R.Nodup := by
            rw [hR, nodup_toN]
            intro hnd
            have hsub : (rs.take j ++ [rs[j]'(by omega)]).Nodup := by rw [← htk2]; exact hnd.sublist (List.take_sublist _ _)
            rw [List.nodup_append] at hsub
            exact hsub.2.2 _ hm (rs[j]'(by omega)) (by simp) rfl
          have hOC : ordB R (R.length : Nat) = false := by rw [hOB, decide_eq_false hnd]; simp
          exact done_ret rfl (by simp [hOC])
        · rw [decide_eq_false hm] at ph
          try simp (disch := first | omega | (simp; done) | fail) [wrap64c, if_pos, if_neg, opAnd, opOr, opXor, opDiff, opShr, opBit, hL, ntv, csv, c1, e0, e17, e18, e19, hlt, q_x, g_x, l_x, r_x, z_x, hxr]
          refine callG_c (by simp) (by simp) ?ha (ph) ?_
          (case ha => simp (disch := first | omega | (simp; done) | fail) [wrap64c, if_pos, if_neg, opAnd, opOr, opXor, opDiff, opShr, opBit, hL, ntv, csv, c1, e0, e17, e18, e19, hlt, q_x, g_x, l_x, r_x, z_x, hxr])
          try simp (disch := first | omega | (simp; done) | fail) [wrap64c, if_pos, if_neg, opAnd, opOr, opXor, opDiff, opShr, opBit, hL, ntv, csv, c1, e0, e17, e18, e19, hlt, q_x, g_x, l_x, r_x, z_x, hxr]
          refine loopK_next _ ?hm ?hf ⟨j + 1, rfl, rfl, (by simp (disch := first | omega | (simp; done) | fail) [wrap64c, if_pos, if_neg, opAnd, opOr, opXor, opDiff, opShr, opBit, hL, ntv, csv, c1, e0, e17, e18, e19, hlt, q_x, g_x, l_x, r_x, z_x, hxr] <;> omega), (by first | omega | assumption | (simp (disch := first | omega | (simp; done) | fail) [wrap64c, if_pos, if_neg, opAnd, opOr, opXor, opDiff, opShr, opBit, hL, ntv, csv, c1, e0, e17, e18, e19, hlt, q_x, g_x, l_x, r_x, z_x, hxr] <;> omega)), (by rw [htk2, List.nodup_append]; exact ⟨hd, by simp, fun a ha b hb e => by simp at hb; subst hb; exact hm (e ▸ ha)⟩)⟩
          (case hm => first | omega | (simp; omega))
          (case hf => simp [FrameL, hL, ntv, csv, c1, e0, e17, e18, e19, hlt, q_x, g_x, l_x, r_x, z_x, hxr, f0_0, f17_0, f18_0])
      · rw [List.take_of_length_le (by omega)] at hd
        have hnd : R.Nodup := by rw [hR, nodup_toN]; exact hd
        try simp (disch := first | omega | (simp; done) | fail) [wrap64c, if_pos, if_neg, opAnd, opOr, opXor, opDiff, opShr, opBit, hL, ntv, csv, c1, e0, e17, e18, e19, hlt]
        have hOC : ordB R (R.length : Nat) = true := by rw [hOB, c1, decide_eq_true hnd, decide_eq_true c2]; rfl
        exact done_ret rfl (by simp [hOC])
    · rw [decide_eq_false c2] at pa
      try simp (disch := first | omega | (simp; done) | fail) [wrap64c, if_pos, if_neg, opAnd, opOr, opXor, opDiff, opShr, opBit, hL, ntv, csv, c1]
      refine callG_c (by simp) (by simp) ?ha (pa) ?_
      (case ha => simp (disch := first | omega | (simp; done) | fail) [wrap64c, if_pos, if_neg, opAnd, opOr, opXor, opDiff, opShr, opBit, hL, ntv, csv, c1])
      try simp (disch := first | omega | (simp; done) | fail) [wrap64c, if_pos, if_neg, opAnd, opOr, opXor, opDiff, opShr, opBit, hL, ntv, csv, c1]
      refine done_ret rfl ⟨?_, by simp⟩
      rw [hOB, decide_eq_false c2]; simp
theorem setW_bit : ∀ (l : List Nat) (s i : Nat), (setW l s).testBit i = (s.testBit i || decide (i ∈ l))
  | [], s, i => by simp [setW]
  | a :: l, s, i => by
    rw [setW, setW_bit l, nOr_bit, bit_bit]
    by_cases e : a = i
    · subst e; simp
    · simp [e, Ne.symm e]
theorem setF_some {M : Nat → Bool} {n : Nat} : ∀ {l : List Int} {s t : Nat}, setF M n l s = some t → (∀ x ∈ l, (0 ≤ x ∧ x < (n : Int)) ∧ s.testBit x.toNat = false) ∧ l.Nodup
  | [], s, t, h => by simp
  | i :: l, s, t, h => by
    simp only [setF] at h
    cases hs : stepW M n s i with
    | none => rw [hs] at h; cases h
    | some r =>
      rw [hs] at h
      obtain ⟨h1, h2⟩ := setF_some h
      unfold stepW at hs
      split at hs
      · rename_i hc
        cases hs
        refine ⟨fun x hx => ?_, List.nodup_cons.2 ⟨fun hm => ?_, h2⟩⟩
        · rcases List.mem_cons.1 hx with rfl | hx
          · exact ⟨⟨hc.1, hc.2.1⟩, hc.2.2.1⟩
          · have := h1 x hx
            refine ⟨this.1, ?_⟩
            have h5 := this.2
            rw [nOr_bit] at h5; simp at h5; exact h5.1
        · have := (h1 i hm).2
          rw [nOr_bit, bit_bit] at this; simp at this
      · cases hs
theorem grWord_ok (h : Hp) (v w : Value) (n : Nat) (xs : List Nat) (W : List Int) (hv : Space h v n (toN xs)) (hw : Ints h w W) (g : SpGood n xs) :
    CallOK Try.prog 210 #[v, w] h (.bool (fullB (n : Int) (toN xs) W)) h := by
  refine callY_P 34 _ [.tmp 4] Try.func210 rfl rfl rfl (by first | rfl | simp) ?_
  obtain ⟨b, rfl, hX⟩ := hv
  have ntw := hw.nt
  have csw := hw.cs
  refine WD_first ?_
  try simp (disch := first | omega | (simp; done) | fail) [wrap64c, if_pos, if_neg, opAnd, opOr, opXor, opDiff, opShr, opBit, ntw, csw]
  refine stopK_heap fun h0 q_h0 => ?_
  refine stopK_go ?_
  have g_h0 : h0.get h.next = .cells [.int .i64 n, b] true true 1 := by simp [q_h0]
  have k_h0 : Adds h h0 := by rw [q_h0]; exact (by first | exact aK | exact kK)
  have n_h0 : h.next < h0.next := by simp [q_h0]; try omega
  have hX0 := hX.keep k_h0.1
  have hw0 := hw.keep k_h0.1
  have K0 := k_h0.1
  have hL := hw0.lenD
  have hlw := hw0.len
  have n7 := g.n7
  have hb7 := bit7 n7
  have hl7 := g.len7
  have spg := spB_of g
  have eF : fullB (n : Int) (toN xs) W = ((setF (fam xs) n W 0).isSome && decide ((W.length : Int) = (n : Int))) := by simp [fullB, wordB, spg]
  by_cases c1 : W.length = n
  · have hb0 : ((W.length : Int) != (n : Int)) = false := by simp [c1]
    have po := spOrder_ok h0 w W hw0
    cases c2 : ordB W (W.length : Nat)
    · rw [c2] at po
      try simp (disch := first | omega | (simp; done) | fail) [wrap64c, if_pos, if_neg, opAnd, opOr, opXor, opDiff, opShr, opBit, ntw, csw, g_h0, hL, hb0]
      refine callG_c (by simp) (by simp) ?ha (po) ?_
      (case ha => simp (disch := first | omega | (simp; done) | fail) [wrap64c, if_pos, if_neg, opAnd, opOr, opXor, opDiff, opShr, opBit, ntw, csw, g_h0, hL, hb0])
      try simp (disch := first | omega | (simp; done) | fail) [wrap64c, if_pos, if_neg, opAnd, opOr, opXor, opDiff, opShr, opBit, ntw, csw, g_h0, hL, hb0]
      have hno : setF (fam xs) n W 0 = none := by
        cases hs : setF (fam xs) n W 0 with
        | none => rfl
        | some t =>
          obtain ⟨h1, h2⟩ := setF_some hs
          have hR := toN_of (X := W) fun x hx => (h1 x hx).1.1
          rw [hR] at c2 h2
          have := ordB_of (n := n) (rs := W.map Int.toNat) (by simp [c1]) g.n1 n7 (fun i hi => by
            obtain ⟨x, hx, rfl⟩ := List.mem_map.1 hi
            have := (h1 x hx).1; omega) (nodup_toN.1 h2)
          rw [show ((toN (W.map Int.toNat)).length : Nat) = n by simp [c1]] at c2
          rw [this] at c2; cases c2
      exact done_ret rfl (by simp [eF, hno, K0])
    · rw [c2] at po
      obtain ⟨n', ws, q1, hW, q3, _, _, q4, q5⟩ := ordB_true c2
      have hnn : n' = n := by omega
      subst hnn
      have hgt := toN_get ws
      have hwg : ∀ i (h1 : i < W.length), W[i] = ((ws[i]'(by omega) : Nat) : Int) := fun i h1 => by simp only [hW]; exact toN_get ws i _
      try simp (disch := first | omega | (simp; done) | fail) [wrap64c, if_pos, if_neg, opAnd, opOr, opXor, opDiff, opShr, opBit, ntw, csw, g_h0, hL, hb0, hgt]
      refine callG_c (by simp) (by simp) ?ha (po) ?_
      (case ha => simp (disch := first | omega | (simp; done) | fail) [wrap64c, if_pos, if_neg, opAnd, opOr, opXor, opDiff, opShr, opBit, ntw, csw, g_h0, hL, hb0, hgt])
      try simp (disch := first | omega | (simp; done) | fail) [wrap64c, if_pos, if_neg, opAnd, opOr, opXor, opDiff, opShr, opBit, ntw, csw, g_h0, hL, hb0, hgt]
      refine WD_loopC [2, 18, 19] (fun m tm h' => ∃ j, m = n' - j ∧ h0 = h' ∧ tm 5 = .int .i64 ((setW (ws.take j) 0 : Nat) : Int) ∧ tm 20 = .int .i64 (j : Int) ∧ (j ≤ n') ∧ (setF (fam xs) n' (W.take j) 0 = some (setW (ws.take j) 0))) _ ⟨0, rfl, rfl, (by simp [setW]), (by simp (disch := first | omega | (simp; done) | fail) [wrap64c, if_pos, if_neg, opAnd, opOr, opXor, opDiff, opShr, opBit, ntw, csw, g_h0, hL, hb0, hgt]), (by first | omega | assumption | (simp (disch := first | omega | (simp; done) | fail) [wrap64c, if_pos, if_neg, opAnd, opOr, opXor, opDiff, opShr, opBit, ntw, csw, g_h0, hL, hb0, hgt] <;> omega)), (by simp [setF, setW])⟩ ?_
      rintro m tm h' hFr ⟨j, rfl, rfl, e5, e20, hj, hs⟩
      simp only [FrameL] at hFr
      obtain ⟨f2_0, f18_0, f19_0, -⟩ := hFr
      try simp (disch := first | omega | (simp; done) | fail) [wrap64c, if_pos, if_neg, opAnd, opOr, opXor, opDiff, opShr, opBit, ntw, csw, g_h0, hL, hb0, hgt] at f2_0 f18_0 f19_0
      have e2 := f2_0
      have e18 := f18_0
      have e19 := f19_0
      obtain ⟨s, hse⟩ : ∃ s, s = setW (ws.take j) 0 := ⟨_, rfl⟩
      have hsl : s < bit n' := hse ▸ setF_lt (by omega) hs
      by_cases hlt : j < n'
      · have hlt1 : j < W.length := by omega
        have hlt2 : j < ws.length := by omega
        obtain ⟨i, hi⟩ : ∃ i, i = ws[j] := ⟨_, rfl⟩
        have hwi := hwg j hlt1
        rw [← hi] at hwi
        have hwi' := hwi
        have hin : i < n' := by rw [hi]; exact q4 _ (List.getElem_mem hlt2)
        have hbi := bit7 (i := i) (by omega)
        have hsn := setF_snoc (fam xs) n' W[j] (W.take j) 0
        rw [← List.take_succ_eq_append_getElem hlt1, hs, Option.bind_some, hwi, ← hse] at hsn
        have htk : setW (ws.take (j + 1)) 0 = nOr s (bit i) := by rw [List.take_succ_eq_append_getElem hlt2, setW_snoc, ← hse, ← hi]
        have hnb : s.testBit i = false := by
          rw [hse, setW_bit]
          have : i ∉ ws.take j := fun hm => by
            rw [← List.take_append_drop j ws, List.nodup_append] at q5
            exact q5.2.2 _ hm i (by rw [hi]; exact List.mem_drop_iff_getElem.2 ⟨0, by simpa using hlt2, by simp⟩) rfl
          simp [this]
        unfold stepW at hsn
        rw [Int.toNat_natCast] at hsn
        have hor : nOr s (bit i) < bit n' := nOr_lt hsl (bit_lt_bit hin)
        have ph := spHas_ok h0 b (toN xs) ((nOr s (bit i) : Nat) : Int) hX0 (by simp; omega) (toN_srt.2 g.srt)
        have hfe : decide (((nOr s (bit i) : Nat) : Int) ∈ toN xs) = fam xs (nOr s (bit i)) := by rw [fam_toN (n := 0)]
        rw [hfe] at ph
        have hse' := hse.symm
        have hlt' : (j : Int) < (n' : Int) := by omega
        obtain ⟨o_x, i_x, c_x, cs_x, own_x, ex_x, es_x, q_x, b_x, g_x, l_x, r_x⟩ := hw0.open ((by omega))
        have z_x : ∀ h2 : i_x < cs_x.length, cs_x[i_x] = _ := fun h2 => r_x 0 ((by omega)) h2
        cases hf : fam xs (nOr s (bit i))
        · rw [hf] at ph hsn
          have hno := setF_none (fam xs) n' (by omega) (hsn.trans (by simp))
          try simp (disch := first | omega | (simp; done) | fail) [wrap64c, if_pos, if_neg, opAnd, opOr, opXor, opDiff, opShr, opBit, ntw, csw, g_h0, hL, hb0, hgt, e2, e5, e18, e19, e20, hlt1, hwi', hse', hlt', q_x, g_x, l_x, r_x, z_x]
          refine callG_c (by simp) (by simp) ?ha (ph) ?_
          (case ha => simp (disch := first | omega | (simp; done) | fail) [wrap64c, if_pos, if_neg, opAnd, opOr, opXor, opDiff, opShr, opBit, ntw, csw, g_h0, hL, hb0, hgt, e2, e5, e18, e19, e20, hlt1, hwi', hse', hlt', q_x, g_x, l_x, r_x, z_x])
          try simp (disch := first | omega | (simp; done) | fail) [wrap64c, if_pos, if_neg, opAnd, opOr, opXor, opDiff, opShr, opBit, ntw, csw, g_h0, hL, hb0, hgt, e2, e5, e18, e19, e20, hlt1, hwi', hse', hlt', q_x, g_x, l_x, r_x, z_x]
          exact done_ret rfl (by simp [eF, hno, K0])
        · rw [hf] at ph hsn
          try simp (disch := first | omega | (simp; done) | fail) [wrap64c, if_pos, if_neg, opAnd, opOr, opXor, opDiff, opShr, opBit, ntw, csw, g_h0, hL, hb0, hgt, e2, e5, e18, e19, e20, hlt1, hwi', hse', hlt', q_x, g_x, l_x, r_x, z_x]
          refine callG_c (by simp) (by simp) ?ha (ph) ?_
          (case ha => simp (disch := first | omega | (simp; done) | fail) [wrap64c, if_pos, if_neg, opAnd, opOr, opXor, opDiff, opShr, opBit, ntw, csw, g_h0, hL, hb0, hgt, e2, e5, e18, e19, e20, hlt1, hwi', hse', hlt', q_x, g_x, l_x, r_x, z_x])
          try simp (disch := first | omega | (simp; done) | fail) [wrap64c, if_pos, if_neg, opAnd, opOr, opXor, opDiff, opShr, opBit, ntw, csw, g_h0, hL, hb0, hgt, e2, e5, e18, e19, e20, hlt1, hwi', hse', hlt', q_x, g_x, l_x, r_x, z_x]
          refine loopK_next _ ?hm ?hf ⟨j + 1, rfl, rfl, (by rw [htk]; simp), (by simp (disch := first | omega | (simp; done) | fail) [wrap64c, if_pos, if_neg, opAnd, opOr, opXor, opDiff, opShr, opBit, ntw, csw, g_h0, hL, hb0, hgt, e2, e5, e18, e19, e20, hlt1, hwi', hse', hlt', q_x, g_x, l_x, r_x, z_x] <;> omega), (by first | omega | assumption | (simp (disch := first | omega | (simp; done) | fail) [wrap64c, if_pos, if_neg, opAnd, opOr, opXor, opDiff, opShr, opBit, ntw, csw, g_h0, hL, hb0, hgt, e2, e5, e18, e19, e20, hlt1, hwi', hse', hlt', q_x, g_x, l_x, r_x, z_x] <;> omega)), (by rw [hsn, htk, if_pos ⟨by omega, by omega, hnb, rfl⟩])⟩
          (case hm => first | omega | (simp; omega))
          (case hf => simp [FrameL, ntw, csw, g_h0, hL, hb0, hgt, e2, e5, e18, e19, e20, hlt1, hwi', hse', hlt', q_x, g_x, l_x, r_x, z_x, f2_0, f18_0, f19_0])
      · have hlt' : ¬ (j : Int) < (n' : Int) := by omega
        rw [List.take_of_length_le (by omega)] at hs
        have hwl : W.length = n' := by omega
        try simp (disch := first | omega | (simp; done) | fail) [wrap64c, if_pos, if_neg, opAnd, opOr, opXor, opDiff, opShr, opBit, ntw, csw, g_h0, hL, hb0, hgt, e2, e5, e18, e19, e20, hlt', hwl]
        exact done_ret rfl (by simp [eF, hs, K0, hwl])
  · have hb0 : ((W.length : Int) != (n : Int)) = true := by simp; omega
    try simp (disch := first | omega | (simp; done) | fail) [wrap64c, if_pos, if_neg, opAnd, opOr, opXor, opDiff, opShr, opBit, ntw, csw, g_h0, hL, hb0]
    have : ¬ (W.length : Int) = (n : Int) := by omega
    exact done_ret rfl (by simp [eF, K0]; omega)
noncomputable def costR (N : Int) (X : List Int) (L : List Job) (W : List Int) : Int := if (gvB N X L && fullB N X W) = true then topN (costN L) (natsOf W) else 0
theorem implCostW_ok (h : Hp) (v w y : Value) (N : Int) (X : List Int) (L : List Job) (W : List Int) (hv : Space h v N X) (hw : Jobs h w L) (hy : Ints h y W) (hl : X.length < 2 ^ 40) :
    CallOK Try.prog 105 #[v, w, y] h (.tuple #[.int .i64 (costR N X L W), .bool (gvB N X L && fullB N X W)]) h := by
  refine callY_P 21 _ [.tmp 6, .tmp 7] Try.func105 rfl rfl rfl (by first | rfl | simp) ?_
  obtain ⟨b, rfl, hX⟩ := hv
  have ntw := hw.nt
  have csw := hw.cs
  have nty := hy.nt
  have csy := hy.cs
  refine WD_first ?_
  try simp (disch := first | omega | (simp; done) | fail) [wrap64c, if_pos, if_neg, opAnd, opOr, opXor, opDiff, opShr, opBit, ntw, csw, nty, csy]
  refine stopK_heap fun h0 q_h0 => ?_
  refine stopK_go ?_
  have g_h0 : h0.get h.next = .cells [.int .i64 N, b] true true 1 := by simp [q_h0]
  have k_h0 : Adds h h0 := by rw [q_h0]; exact (by first | exact aK | exact kK)
  have n_h0 : h.next < h0.next := by simp [q_h0]; try omega
  have hX0 := hX.keep k_h0.1
  have hw0 := hw.keep k_h0.1
  have hy0 := hy.keep k_h0.1
  have K0 := k_h0.1
  have pt : CallOK Try.prog 177 #[.agg #[.int .i64 N, b], w] h0 (.bool (gvB N X L)) h0 := together_ok h0 (.agg #[.int .i64 N, b]) w N X L (.mk hX0) hw0 hl
  try simp (disch := first | omega | (simp; done) | fail) [wrap64c, if_pos, if_neg, opAnd, opOr, opXor, opDiff, opShr, opBit, ntw, csw, nty, csy, g_h0]
  refine callG_c (by simp) (by simp) ?ha (pt) ?_
  (case ha => simp (disch := first | omega | (simp; done) | fail) [wrap64c, if_pos, if_neg, opAnd, opOr, opXor, opDiff, opShr, opBit, ntw, csw, nty, csy, g_h0])
  cases c1 : gvB N X L
  · try simp (disch := first | omega | (simp; done) | fail) [wrap64c, if_pos, if_neg, opAnd, opOr, opXor, opDiff, opShr, opBit, ntw, csw, nty, csy, g_h0, c1]
    exact done_ret rfl (by simp [costR, c1, K0])
  · try simp (disch := first | omega | (simp; done) | fail) [wrap64c, if_pos, if_neg, opAnd, opOr, opXor, opDiff, opShr, opBit, ntw, csw, nty, csy, g_h0, c1]
    refine callG_c (by simp) (by simp) ?ha (isFull_ok h0 (.agg #[.int .i64 N, b]) y N X W (.mk hX0) hy0 hl) ?_
    (case ha => simp (disch := first | omega | (simp; done) | fail) [wrap64c, if_pos, if_neg, opAnd, opOr, opXor, opDiff, opShr, opBit, ntw, csw, nty, csy, g_h0, c1])
    cases c2 : fullB N X W
    · try simp (disch := first | omega | (simp; done) | fail) [wrap64c, if_pos, if_neg, opAnd, opOr, opXor, opDiff, opShr, opBit, ntw, csw, nty, csy, g_h0, c1, c2]
      exact done_ret rfl (by simp [costR, c1, c2, K0])
    · obtain ⟨n, xs, hN, hXe, g, gj, hLn⟩ := gvB_true c1
      subst hN hXe
      have c3 := c2
      unfold fullB wordB at c3
      simp only [Bool.and_eq_true, decide_eq_true_iff, natsOf_toN, Int.toNat_natCast] at c3
      obtain ⟨t, ht⟩ := Option.isSome_iff_exists.1 c3.1.2
      obtain ⟨h1, h2⟩ := setF_some ht
      have hR := toN_of (X := W) fun x hx => (h1 x hx).1.1
      have n7 := g.n7
      have n1 := g.n1
      have pc := costOf_ok h0 w y L (W.map Int.toNat) hw0 (hR ▸ hy0) gj (fun i hi => by
        obtain ⟨x, hx, rfl⟩ := List.mem_map.1 hi
        have := (h1 x hx).1; omega) (by simp; omega) (by simp; omega)
      try simp (disch := first | omega | (simp; done) | fail) [wrap64c, if_pos, if_neg, opAnd, opOr, opXor, opDiff, opShr, opBit, ntw, csw, nty, csy, g_h0, c1, c2]
      refine callG_c (by simp) (by simp) ?ha (pc) ?_
      (case ha => simp (disch := first | omega | (simp; done) | fail) [wrap64c, if_pos, if_neg, opAnd, opOr, opXor, opDiff, opShr, opBit, ntw, csw, nty, csy, g_h0, c1, c2])
      try simp (disch := first | omega | (simp; done) | fail) [wrap64c, if_pos, if_neg, opAnd, opOr, opXor, opDiff, opShr, opBit, ntw, csw, nty, csy, g_h0, c1, c2]
      exact done_ret rfl (by simp [costR, natsOf, c1, c2, K0])
theorem specCostW_ok (h : Hp) (v w y : Value) (N : Int) (X : List Int) (L : List Job) (W : List Int) (hv : Space h v N X) (hw : Jobs h w L) (hy : Ints h y W) (hl : X.length < 2 ^ 40) :
    CallOK Try.prog 107 #[v, w, y] h (.tuple #[.int .i64 (costR N X L W), .bool (gvB N X L && fullB N X W)]) h := by
  refine callY_P 21 _ [.tmp 6, .tmp 7] Try.func107 rfl rfl rfl (by first | rfl | simp) ?_
  obtain ⟨b, rfl, hX⟩ := hv
  have ntw := hw.nt
  have csw := hw.cs
  have nty := hy.nt
  have csy := hy.cs
  refine WD_first ?_
  try simp (disch := first | omega | (simp; done) | fail) [wrap64c, if_pos, if_neg, opAnd, opOr, opXor, opDiff, opShr, opBit, ntw, csw, nty, csy]
  refine stopK_heap fun h0 q_h0 => ?_
  refine stopK_go ?_
  have g_h0 : h0.get h.next = .cells [.int .i64 N, b] true true 1 := by simp [q_h0]
  have k_h0 : Adds h h0 := by rw [q_h0]; exact (by first | exact aK | exact kK)
  have n_h0 : h.next < h0.next := by simp [q_h0]; try omega
  have hX0 := hX.keep k_h0.1
  have hw0 := hw.keep k_h0.1
  have hy0 := hy.keep k_h0.1
  have K0 := k_h0.1
  have pt : CallOK Try.prog 184 #[.agg #[.int .i64 N, b], w] h0 (.bool (gvB N X L)) h0 := grGiven_ok h0 (.agg #[.int .i64 N, b]) w N X L (.mk hX0) hw0 hl
  try simp (disch := first | omega | (simp; done) | fail) [wrap64c, if_pos, if_neg, opAnd, opOr, opXor, opDiff, opShr, opBit, ntw, csw, nty, csy, g_h0]
  refine callG_c (by simp) (by simp) ?ha (pt) ?_
  (case ha => simp (disch := first | omega | (simp; done) | fail) [wrap64c, if_pos, if_neg, opAnd, opOr, opXor, opDiff, opShr, opBit, ntw, csw, nty, csy, g_h0])
  cases c1 : gvB N X L
  · try simp (disch := first | omega | (simp; done) | fail) [wrap64c, if_pos, if_neg, opAnd, opOr, opXor, opDiff, opShr, opBit, ntw, csw, nty, csy, g_h0, c1]
    exact done_ret rfl (by simp [costR, c1, K0])
  · obtain ⟨n, xs, hN, hXe, g, gj, hLn⟩ := gvB_true c1
    subst hN hXe
    try simp (disch := first | omega | (simp; done) | fail) [wrap64c, if_pos, if_neg, opAnd, opOr, opXor, opDiff, opShr, opBit, ntw, csw, nty, csy, g_h0, c1]
    refine callG_c (by simp) (by simp) ?ha (grWord_ok h0 (.agg #[.int .i64 n, b]) y n xs W (.mk hX0) hy0 g) ?_
    (case ha => simp (disch := first | omega | (simp; done) | fail) [wrap64c, if_pos, if_neg, opAnd, opOr, opXor, opDiff, opShr, opBit, ntw, csw, nty, csy, g_h0, c1])
    cases c2 : fullB (n : Int) (toN xs) W
    · try simp (disch := first | omega | (simp; done) | fail) [wrap64c, if_pos, if_neg, opAnd, opOr, opXor, opDiff, opShr, opBit, ntw, csw, nty, csy, g_h0, c1, c2]
      exact done_ret rfl (by simp [costR, c1, c2, K0])
    · have c3 := c2
      unfold fullB wordB at c3
      simp only [Bool.and_eq_true, decide_eq_true_iff, natsOf_toN, Int.toNat_natCast] at c3
      obtain ⟨t, ht⟩ := Option.isSome_iff_exists.1 c3.1.2
      obtain ⟨h1, h2⟩ := setF_some ht
      have hR := toN_of (X := W) fun x hx => (h1 x hx).1.1
      have n7 := g.n7
      have n1 := g.n1
      have pc := grOf_ok h0 w y L (W.map Int.toNat) hw0 (hR ▸ hy0) gj (fun i hi => by
        obtain ⟨x, hx, rfl⟩ := List.mem_map.1 hi
        have := (h1 x hx).1; omega) (by simp; omega)
      try simp (disch := first | omega | (simp; done) | fail) [wrap64c, if_pos, if_neg, opAnd, opOr, opXor, opDiff, opShr, opBit, ntw, csw, nty, csy, g_h0, c1, c2]
      refine callG_c (by simp) (by simp) ?ha (pc) ?_
      (case ha => simp (disch := first | omega | (simp; done) | fail) [wrap64c, if_pos, if_neg, opAnd, opOr, opXor, opDiff, opShr, opBit, ntw, csw, nty, csy, g_h0, c1, c2])
      try simp (disch := first | omega | (simp; done) | fail) [wrap64c, if_pos, if_neg, opAnd, opOr, opXor, opDiff, opShr, opBit, ntw, csw, nty, csy, g_h0, c1, c2]
      exact done_ret rfl (by simp [costR, natsOf, c1, c2, K0])
end Go.Proofs.Ytnncipcldbopgaa
namespace Go.Proofs.Ytnncipcldbopgaa
set_option linter.unusedSimpArgs false
set_option linter.unusedVariables false
set_option maxHeartbeats 4000000
open Go Go.Eng
attribute [local irreducible] WD RunD PreD Runs CallOK
def rankC (R : List Int) (s i : Nat) : Int := R.getD i 0
noncomputable def fwB (N : Int) (X R : List Int) : Bool := spB N X && ordB R N
noncomputable def fwR (N : Int) (X R : List Int) : List Int := if fwB N X R = true then toN (greedN (rankC R) (natsOf X) N.toNat) else []
theorem fwB_true {N : Int} {X R : List Int} (h : fwB N X R = true) : ∃ n xs, N = (n : Nat) ∧ X = toN xs ∧ SpGood n xs ∧ R.length = n ∧ ∀ x ∈ R, 0 ≤ x ∧ x ≤ 7 := by
  unfold fwB at h
  rw [Bool.and_eq_true] at h
  obtain ⟨n, xs, rfl, rfl, g⟩ := spB_true h.1
  obtain ⟨n', rs, h1, rfl, h3, _, h5, h6, _⟩ := ordB_true h.2
  have : n' = n := by omega
  subst this
  refine ⟨n', xs, rfl, rfl, g, by simp [h3], fun x hx => ?_⟩
  obtain ⟨a, rfl, ha⟩ := mem_toN' hx
  have := h6 a ha
  omega
theorem specFirst_ok (h : Hp) (v w : Value) (N : Int) (X R : List Int) (hv : Space h v N X) (hw : Ints h w R) (hl : X.length < 2 ^ 40) :
    ∃ v' h', CallOK Try.prog 93 #[v, w] h v' h' ∧ Adds h h' ∧ ∃ u, v' = .tuple #[u, .bool (fwB N X R)] ∧ IntsO (Btw h.next h'.next) h' u (fwR N X R) := by
  refine callY_L (args := [v, w]) 68 _ [.tmp 4, .tmp 5] Try.func93 rfl rfl rfl ?_
  obtain ⟨b, rfl, hX⟩ := hv
  have ntw := hw.nt
  have csw := hw.cs
  refine WD_first ?_
  try simp (disch := first | omega | (simp; done) | fail) [wrap64c, if_pos, if_neg, opAnd, opOr, opXor, opDiff, opShr, opBit, ntw, csw]
  refine stopK_heap fun h0 q_h0 => ?_
  refine stopK_go ?_
  have g_h0 : h0.get h.next = .cells [.int .i64 N, b] true true 1 := by simp [q_h0]
  have k_h0 : Adds h h0 := by rw [q_h0]; exact (by first | exact aK | exact kK)
  have n_h0 : h.next < h0.next := by simp [q_h0]; try omega
  have hX0 := hX.keep k_h0.1
  have hw0 := hw.keep k_h0.1
  have hLw0 := hw0.lenD
  try simp (disch := first | omega | (simp; done) | fail) [wrap64c, if_pos, if_neg, opAnd, opOr, opXor, opDiff, opShr, opBit, ntw, csw, g_h0, hLw0]
  refine callG_c (by simp) (by simp) ?ha (spGood_ok h0 (.agg #[.int .i64 N, b]) N X (.mk hX0) hl) ?_
  (case ha => simp (disch := first | omega | (simp; done) | fail) [wrap64c, if_pos, if_neg, opAnd, opOr, opXor, opDiff, opShr, opBit, ntw, csw, g_h0, hLw0])
  cases c0 : spB N X
  · try simp (disch := first | omega | (simp; done) | fail) [wrap64c, if_pos, if_neg, opAnd, opOr, opXor, opDiff, opShr, opBit, ntw, csw, g_h0, hLw0, c0]
    have c1 : fwB N X R = false := by simp [fwB, c0]
    refine done_ret rfl ⟨k_h0, _, by simp [c1]; rfl, ?_⟩
    rw [fwR, if_neg (by simp [c1])]
    exact .nil _ _
  · by_cases c3 : (R.length : Int) = N
    · have c3' : ((R.length : Int) != N) = false := by simp [c3]
      have po := spOrder_ok h0 w R hw0
      rw [c3] at po
      try simp (disch := first | omega | (simp; done) | fail) [wrap64c, if_pos, if_neg, opAnd, opOr, opXor, opDiff, opShr, opBit, ntw, csw, g_h0, hLw0, c0, c3']
      refine callG_c (by simp) (by simp) ?ha (po) ?_
      (case ha => simp (disch := first | omega | (simp; done) | fail) [wrap64c, if_pos, if_neg, opAnd, opOr, opXor, opDiff, opShr, opBit, ntw, csw, g_h0, hLw0, c0, c3'])
      cases c2 : ordB R N
      · try simp (disch := first | omega | (simp; done) | fail) [wrap64c, if_pos, if_neg, opAnd, opOr, opXor, opDiff, opShr, opBit, ntw, csw, g_h0, hLw0, c0, c3', c2]
        have c1 : fwB N X R = false := by simp [fwB, c2]
        refine done_ret rfl ⟨k_h0, _, by simp [c1]; rfl, ?_⟩
        rw [fwR, if_neg (by simp [c1])]
        exact .nil _ _
      · have c1 : fwB N X R = true := by simp [fwB, c0, c2]
        obtain ⟨n, xs, hN, hXe, g, hRn, hR7⟩ := fwB_true c1
        subst hN hXe
        have n7 := g.n7
        have hb7 := bit7 n7
        have hlx := g.len7
        try simp (disch := first | omega | (simp; done) | fail) [wrap64c, if_pos, if_neg, opAnd, opOr, opXor, opDiff, opShr, opBit, ntw, csw, g_h0, hLw0, c0, c3', c2]
        refine WD_loopC [1, 2] (fun m tm h' => ∃ k u, m = n - k ∧ tm 6 = u ∧ tm 7 = .int .i64 (((greedS (rankC R) (fam xs) n k).2 : Nat) : Int) ∧ (k ≤ n) ∧ (Adds h h') ∧ (Adds h0 h') ∧ (IntsA h0.next h' u (toN (greedS (rankC R) (fam xs) n k).1))) _ ⟨0, .slice none 0 0, rfl, (by simp (disch := first | omega | (simp; done) | fail) [wrap64c, if_pos, if_neg, opAnd, opOr, opXor, opDiff, opShr, opBit, ntw, csw, g_h0, hLw0, c0, c3', c2]), (by simp [greedS]), (by first | omega | assumption | (simp (disch := first | omega | (simp; done) | fail) [wrap64c, if_pos, if_neg, opAnd, opOr, opXor, opDiff, opShr, opBit, ntw, csw, g_h0, hLw0, c0, c3', c2] <;> omega)), (by first | exact aK | exact kK), (adds_self _), (by simp [greedS, toN]; exact IntsA.nil _ _)⟩ ?_
        rintro m tm h' hFr ⟨k, u, rfl, e6, e7, hk, ha, ha0, hu⟩
        simp only [FrameL] at hFr
        obtain ⟨f1_0, f2_0, -⟩ := hFr
        try simp (disch := first | omega | (simp; done) | fail) [wrap64c, if_pos, if_neg, opAnd, opOr, opXor, opDiff, opShr, opBit, ntw, csw, g_h0, hLw0, c0, c3', c2] at f1_0 f2_0
        have e1 := f1_0
        have e2 := f2_0
        rename Hp => hA
        have hlu := greed_len (rankC R) (fam xs) n k
        have hlU := hu.lenD
        have hlu2 : (toN (greedS (rankC R) (fam xs) n k).1).length = k := by rw [toN_length, hlu]
        have hn2 := ha0.1.1
        have g1' : hA.get h.next = .cells [.int .i64 n, b] true true 1 := by rw [ha0.1.2 _ (by omega)]; exact g_h0
        have hX2 := hX0.keep ha0.1
        have hw2 := hw0.keep ha0.1
        have hLw := hw2.lenD
        by_cases hlt : k < n
        · obtain ⟨hi1, hi2⟩ := greed_inv g (rankC R) k hk
          have hs128 := g.lt7 _ hi1
          obtain ⟨s, hs⟩ : ∃ s, s = (greedS (rankC R) (fam xs) n k).2 := ⟨_, rfl⟩
          have hout := outerN_lt (fam xs) n s
          have hwn := greed_ne g (rankC R) hlt
          rw [← hs] at hwn hs128
          obtain ⟨hlo, hmem⟩ := nextG_mem (rankC R) hwn
          obtain ⟨l1, l2, l3⟩ := g.learn hmem
          have hp64 := bit_lt7 (i := nextG (rankC R) (fam xs) n s) (by omega)
          have hor := g.lt7 _ l3
          have hs2 := hs.symm
          try simp (disch := first | omega | (simp; done) | fail) [wrap64c, if_pos, if_neg, opAnd, opOr, opXor, opDiff, opShr, opBit, ntw, csw, g_h0, hLw0, c0, c3', c2, e1, e2, e6, e7, hlU, hlu2, g1', hLw, hlt, hs2]
          refine callG_c (by simp) (by simp) ?ha (spOuter_ok hA (.agg #[.int .i64 n, b]) n xs s (.mk hX2) n7 (by omega) g.srt hs128) ?_
          (case ha => simp (disch := first | omega | (simp; done) | fail) [wrap64c, if_pos, if_neg, opAnd, opOr, opXor, opDiff, opShr, opBit, ntw, csw, g_h0, hLw0, c0, c3', c2, e1, e2, e6, e7, hlU, hlu2, g1', hLw, hlt, hs2])
          try simp (disch := first | omega | (simp; done) | fail) [wrap64c, if_pos, if_neg, opAnd, opOr, opXor, opDiff, opShr, opBit, ntw, csw, g_h0, hLw0, c0, c3', c2, e1, e2, e6, e7, hlU, hlu2, g1', hLw, hlt, hs2]
          refine WD_loopC [1, 2, 6, 7, 9, 35] (fun m tm h' => ∃ j, m = n - j ∧ hA = h' ∧ tm 8 = .int .i64 (optI (leastO (rankC R s) (itemsK (outerN (fam xs) n s) j) none)) ∧ tm 36 = .int .i64 (j : Int) ∧ (j ≤ n)) _ ⟨0, rfl, rfl, (by simp [itemsK, leastO, optI]), (by simp (disch := first | omega | (simp; done) | fail) [wrap64c, if_pos, if_neg, opAnd, opOr, opXor, opDiff, opShr, opBit, ntw, csw, g_h0, hLw0, c0, c3', c2, e1, e2, e6, e7, hlU, hlu2, g1', hLw, hlt, hs2]), (by first | omega | assumption | (simp (disch := first | omega | (simp; done) | fail) [wrap64c, if_pos, if_neg, opAnd, opOr, opXor, opDiff, opShr, opBit, ntw, csw, g_h0, hLw0, c0, c3', c2, e1, e2, e6, e7, hlU, hlu2, g1', hLw, hlt, hs2] <;> omega))⟩ ?_
          rintro m tm h' hFr ⟨j, rfl, rfl, e8, e36, hj⟩
          simp only [FrameL] at hFr
          obtain ⟨f1_1, f2_1, f6_1, f7_1, f9_1, f35_1, -⟩ := hFr
          try simp (disch := first | omega | (simp; done) | fail) [wrap64c, if_pos, if_neg, opAnd, opOr, opXor, opDiff, opShr, opBit, ntw, csw, g_h0, hLw0, c0, c3', c2, e1, e2, e6, e7, hlU, hlu2, g1', hLw, hlt, hs2] at f1_1 f2_1 f6_1 f7_1 f9_1 f35_1
          have e1 := f1_1
          have e2 := f2_1
          have e6 := f6_1
          have e7 := f7_1
          have e9 := f9_1
          have e35 := f35_1
          by_cases hlt2 : j < n
          · have hjL : j < R.length := by omega
            have hjL2 : (j : Int) < (R.length : Int) := by omega
            have hks := itemsK_succ (outerN (fam xs) n s) j
            have psi := spIn_ok hA (outerN (fam xs) n s) j (by omega) (by omega)
            have hrj : rankC R s j = R[j] := by unfold rankC; rw [List.getD_eq_getElem?_getD, List.getElem?_eq_getElem hjL]; rfl
            obtain ⟨o_x, i_x, c_x, cs_x, own_x, ex_x, es_x, q_x, b_x, g_x, l_x, r_x⟩ := hw2.open ((by omega))
            have z_x : ∀ h2 : i_x < cs_x.length, cs_x[i_x] = _ := fun h2 => r_x 0 ((by omega)) h2
            cases hb : (outerN (fam xs) n s).testBit j
            · rw [hb, if_neg (by simp)] at hks
              rw [hb] at psi
              try simp (disch := first | omega | (simp; done) | fail) [wrap64c, if_pos, if_neg, opAnd, opOr, opXor, opDiff, opShr, opBit, ntw, csw, g_h0, hLw0, c0, c3', c2, e1, e2, e6, e7, hlU, hlu2, g1', hLw, hlt, hs2, e8, e9, e35, e36, hlt2, hjL, hjL2, q_x, g_x, l_x, r_x, z_x]
              refine WD_drawC 15 rfl (by kernel_rfl) ?_
              try simp (disch := first | omega | (simp; done) | fail) [wrap64c, if_pos, if_neg, opAnd, opOr, opXor, opDiff, opShr, opBit, ntw, csw, g_h0, hLw0, c0, c3', c2, e1, e2, e6, e7, hlU, hlu2, g1', hLw, hlt, hs2, e8, e9, e35, e36, hlt2, hjL, hjL2, q_x, g_x, l_x, r_x, z_x]
              refine callP_c (by simp) (by simp) ?ha (psi) ?hadd ?_
              (case ha => simp (disch := first | omega | (simp; done) | fail) [wrap64c, if_pos, if_neg, opAnd, opOr, opXor, opDiff, opShr, opBit, ntw, csw, g_h0, hLw0, c0, c3', c2, e1, e2, e6, e7, hlU, hlu2, g1', hLw, hlt, hs2, e8, e9, e35, e36, hlt2, hjL, hjL2, q_x, g_x, l_x, r_x, z_x])
              (case hadd => first | assumption | exact adds_self _ | (simp; done))
              try simp (disch := first | omega | (simp; done) | fail) [wrap64c, if_pos, if_neg, opAnd, opOr, opXor, opDiff, opShr, opBit, ntw, csw, g_h0, hLw0, c0, c3', c2, e1, e2, e6, e7, hlU, hlu2, g1', hLw, hlt, hs2, e8, e9, e35, e36, hlt2, hjL, hjL2, q_x, g_x, l_x, r_x, z_x]
              refine loopK_next _ ?hm ?hf ⟨j + 1, rfl, rfl, (by simp [hks, e8]), (by simp (disch := first | omega | (simp; done) | fail) [wrap64c, if_pos, if_neg, opAnd, opOr, opXor, opDiff, opShr, opBit, ntw, csw, g_h0, hLw0, c0, c3', c2, e1, e2, e6, e7, hlU, hlu2, g1', hLw, hlt, hs2, e8, e9, e35, e36, hlt2, hjL, hjL2, q_x, g_x, l_x, r_x, z_x] <;> omega), (by first | omega | assumption | (simp (disch := first | omega | (simp; done) | fail) [wrap64c, if_pos, if_neg, opAnd, opOr, opXor, opDiff, opShr, opBit, ntw, csw, g_h0, hLw0, c0, c3', c2, e1, e2, e6, e7, hlU, hlu2, g1', hLw, hlt, hs2, e8, e9, e35, e36, hlt2, hjL, hjL2, q_x, g_x, l_x, r_x, z_x] <;> omega))⟩
              (case hm => first | omega | (simp; omega))
              (case hf => simp [FrameL, ntw, csw, g_h0, hLw0, c0, c3', c2, e1, e2, e6, e7, hlU, hlu2, g1', hLw, hlt, hs2, e8, e9, e35, e36, hlt2, hjL, hjL2, q_x, g_x, l_x, r_x, z_x, f1_1, f2_1, f6_1, f7_1, f9_1, f35_1])
            · rw [hb, if_pos rfl] at hks
              rw [hb] at psi
              have hsn := leastO_snoc (rankC R s) j (itemsK (outerN (fam xs) n s) j) none
              rw [← hks] at hsn
              rcases ho : leastO (rankC R s) (itemsK (outerN (fam xs) n s) j) none with _ | b'
              · rw [ho] at hsn
                have hq1 : optI none = -1 := rfl
                try simp (disch := first | omega | (simp; done) | fail) [wrap64c, if_pos, if_neg, opAnd, opOr, opXor, opDiff, opShr, opBit, ntw, csw, g_h0, hLw0, c0, c3', c2, e1, e2, e6, e7, hlU, hlu2, g1', hLw, hlt, hs2, e8, e9, e35, e36, hlt2, hjL, hjL2, q_x, g_x, l_x, r_x, z_x, ho, hq1]
                refine WD_drawC 15 rfl (by kernel_rfl) ?_
                try simp (disch := first | omega | (simp; done) | fail) [wrap64c, if_pos, if_neg, opAnd, opOr, opXor, opDiff, opShr, opBit, ntw, csw, g_h0, hLw0, c0, c3', c2, e1, e2, e6, e7, hlU, hlu2, g1', hLw, hlt, hs2, e8, e9, e35, e36, hlt2, hjL, hjL2, q_x, g_x, l_x, r_x, z_x, ho, hq1]
                refine callP_c (by simp) (by simp) ?ha (psi) ?hadd ?_
                (case ha => simp (disch := first | omega | (simp; done) | fail) [wrap64c, if_pos, if_neg, opAnd, opOr, opXor, opDiff, opShr, opBit, ntw, csw, g_h0, hLw0, c0, c3', c2, e1, e2, e6, e7, hlU, hlu2, g1', hLw, hlt, hs2, e8, e9, e35, e36, hlt2, hjL, hjL2, q_x, g_x, l_x, r_x, z_x, ho, hq1])
                (case hadd => first | assumption | exact adds_self _ | (simp; done))
                try simp (disch := first | omega | (simp; done) | fail) [wrap64c, if_pos, if_neg, opAnd, opOr, opXor, opDiff, opShr, opBit, ntw, csw, g_h0, hLw0, c0, c3', c2, e1, e2, e6, e7, hlU, hlu2, g1', hLw, hlt, hs2, e8, e9, e35, e36, hlt2, hjL, hjL2, q_x, g_x, l_x, r_x, z_x, ho, hq1]
                refine loopK_next _ ?hm ?hf ⟨j + 1, rfl, rfl, (by simp [hsn, lessO, optI]), (by simp (disch := first | omega | (simp; done) | fail) [wrap64c, if_pos, if_neg, opAnd, opOr, opXor, opDiff, opShr, opBit, ntw, csw, g_h0, hLw0, c0, c3', c2, e1, e2, e6, e7, hlU, hlu2, g1', hLw, hlt, hs2, e8, e9, e35, e36, hlt2, hjL, hjL2, q_x, g_x, l_x, r_x, z_x] <;> omega), (by first | omega | assumption | (simp (disch := first | omega | (simp; done) | fail) [wrap64c, if_pos, if_neg, opAnd, opOr, opXor, opDiff, opShr, opBit, ntw, csw, g_h0, hLw0, c0, c3', c2, e1, e2, e6, e7, hlU, hlu2, g1', hLw, hlt, hs2, e8, e9, e35, e36, hlt2, hjL, hjL2, q_x, g_x, l_x, r_x, z_x] <;> omega))⟩
                (case hm => first | omega | (simp; omega))
                (case hf => simp [FrameL, ntw, csw, g_h0, hLw0, c0, c3', c2, e1, e2, e6, e7, hlU, hlu2, g1', hLw, hlt, hs2, e8, e9, e35, e36, hlt2, hjL, hjL2, q_x, g_x, l_x, r_x, z_x, f1_1, f2_1, f6_1, f7_1, f9_1, f35_1])
              · rw [ho] at hsn
                have hq1 : optI (some b') = (b' : Int) := rfl
                have hq3 : ¬ (b' : Int) < 0 := by omega
                have hbm := leastO_mem _ _ _ ho
                have hbL : b' < R.length := by
                  have : b' < j := by simp only [itemsK, List.mem_filter, List.mem_range] at hbm; exact hbm.1
                  omega
                have hbL1 := hbL
                have hrb : rankC R s b' = R[b'] := by unfold rankC; rw [List.getD_eq_getElem?_getD, List.getElem?_eq_getElem hbL]; rfl
                try simp (disch := first | omega | (simp; done) | fail) [wrap64c, if_pos, if_neg, opAnd, opOr, opXor, opDiff, opShr, opBit, ntw, csw, g_h0, hLw0, c0, c3', c2, e1, e2, e6, e7, hlU, hlu2, g1', hLw, hlt, hs2, e8, e9, e35, e36, hlt2, hjL, hjL2, q_x, g_x, l_x, r_x, z_x, hbL1, ho, hq1, hq3]
                refine WD_drawC 15 rfl (by kernel_rfl) ?_
                try simp (disch := first | omega | (simp; done) | fail) [wrap64c, if_pos, if_neg, opAnd, opOr, opXor, opDiff, opShr, opBit, ntw, csw, g_h0, hLw0, c0, c3', c2, e1, e2, e6, e7, hlU, hlu2, g1', hLw, hlt, hs2, e8, e9, e35, e36, hlt2, hjL, hjL2, q_x, g_x, l_x, r_x, z_x, hbL1, ho, hq1, hq3]
                refine callP_c (by simp) (by simp) ?ha (psi) ?hadd ?_
                (case ha => simp (disch := first | omega | (simp; done) | fail) [wrap64c, if_pos, if_neg, opAnd, opOr, opXor, opDiff, opShr, opBit, ntw, csw, g_h0, hLw0, c0, c3', c2, e1, e2, e6, e7, hlU, hlu2, g1', hLw, hlt, hs2, e8, e9, e35, e36, hlt2, hjL, hjL2, q_x, g_x, l_x, r_x, z_x, hbL1, ho, hq1, hq3])
                (case hadd => first | assumption | exact adds_self _ | (simp; done))
                by_cases hcb : R[j] < R[b']
                · have hcb1 : rankC R s j < rankC R s b' := by rw [hrj, hrb]; exact hcb
                  try simp (disch := first | omega | (simp; done) | fail) [wrap64c, if_pos, if_neg, opAnd, opOr, opXor, opDiff, opShr, opBit, ntw, csw, g_h0, hLw0, c0, c3', c2, e1, e2, e6, e7, hlU, hlu2, g1', hLw, hlt, hs2, e8, e9, e35, e36, hlt2, hjL, hjL2, q_x, g_x, l_x, r_x, z_x, hbL1, ho, hq1, hq3, hcb]
                  refine loopK_next _ ?hm ?hf ⟨j + 1, rfl, rfl, (by simp [hsn, lessO, optI, hcb1]), (by simp (disch := first | omega | (simp; done) | fail) [wrap64c, if_pos, if_neg, opAnd, opOr, opXor, opDiff, opShr, opBit, ntw, csw, g_h0, hLw0, c0, c3', c2, e1, e2, e6, e7, hlU, hlu2, g1', hLw, hlt, hs2, e8, e9, e35, e36, hlt2, hjL, hjL2, q_x, g_x, l_x, r_x, z_x, hbL1] <;> omega), (by first | omega | assumption | (simp (disch := first | omega | (simp; done) | fail) [wrap64c, if_pos, if_neg, opAnd, opOr, opXor, opDiff, opShr, opBit, ntw, csw, g_h0, hLw0, c0, c3', c2, e1, e2, e6, e7, hlU, hlu2, g1', hLw, hlt, hs2, e8, e9, e35, e36, hlt2, hjL, hjL2, q_x, g_x, l_x, r_x, z_x, hbL1] <;> omega))⟩
                  (case hm => first | omega | (simp; omega))
                  (case hf => simp [FrameL, ntw, csw, g_h0, hLw0, c0, c3', c2, e1, e2, e6, e7, hlU, hlu2, g1', hLw, hlt, hs2, e8, e9, e35, e36, hlt2, hjL, hjL2, q_x, g_x, l_x, r_x, z_x, hbL1, f1_1, f2_1, f6_1, f7_1, f9_1, f35_1])
                · have hcb1 : ¬ rankC R s j < rankC R s b' := by rw [hrj, hrb]; exact hcb
                  try simp (disch := first | omega | (simp; done) | fail) [wrap64c, if_pos, if_neg, opAnd, opOr, opXor, opDiff, opShr, opBit, ntw, csw, g_h0, hLw0, c0, c3', c2, e1, e2, e6, e7, hlU, hlu2, g1', hLw, hlt, hs2, e8, e9, e35, e36, hlt2, hjL, hjL2, q_x, g_x, l_x, r_x, z_x, hbL1, ho, hq1, hq3, hcb]
                  refine loopK_next _ ?hm ?hf ⟨j + 1, rfl, rfl, (by simp [hsn, lessO, optI, hcb1, e8, ho]), (by simp (disch := first | omega | (simp; done) | fail) [wrap64c, if_pos, if_neg, opAnd, opOr, opXor, opDiff, opShr, opBit, ntw, csw, g_h0, hLw0, c0, c3', c2, e1, e2, e6, e7, hlU, hlu2, g1', hLw, hlt, hs2, e8, e9, e35, e36, hlt2, hjL, hjL2, q_x, g_x, l_x, r_x, z_x, hbL1] <;> omega), (by first | omega | assumption | (simp (disch := first | omega | (simp; done) | fail) [wrap64c, if_pos, if_neg, opAnd, opOr, opXor, opDiff, opShr, opBit, ntw, csw, g_h0, hLw0, c0, c3', c2, e1, e2, e6, e7, hlU, hlu2, g1', hLw, hlt, hs2, e8, e9, e35, e36, hlt2, hjL, hjL2, q_x, g_x, l_x, r_x, z_x, hbL1] <;> omega))⟩
                  (case hm => first | omega | (simp; omega))
                  (case hf => simp [FrameL, ntw, csw, g_h0, hLw0, c0, c3', c2, e1, e2, e6, e7, hlU, hlu2, g1', hLw, hlt, hs2, e8, e9, e35, e36, hlt2, hjL, hjL2, q_x, g_x, l_x, r_x, z_x, hbL1, f1_1, f2_1, f6_1, f7_1, f9_1, f35_1])
          · rw [show j = n by omega, itemsK_eq hout n7, hlo] at e8
            have hq1 : optI (some (nextG (rankC R) (fam xs) n s)) = ((nextG (rankC R) (fam xs) n s : Nat) : Int) := rfl
            have hjR : ¬ (j : Int) < (R.length : Int) := by omega
            try simp (disch := first | omega | (simp; done) | fail) [wrap64c, if_pos, if_neg, opAnd, opOr, opXor, opDiff, opShr, opBit, ntw, csw, g_h0, hLw0, c0, c3', c2, e1, e2, e6, e7, hlU, hlu2, g1', hLw, hlt, hs2, e8, e9, e35, e36, hlt2, hq1, hjR]
            obtain ⟨u3, h3, hap, hu3, ha3, hn4, hs3⟩ := appI hu ((nextG (rankC R) (fam xs) n s : Nat) : Int) (by rw [hlu2]; omega) (by omega) ha (by omega)
            have k3 : Adds h0 h3 := ⟨⟨by omega, fun o ho => (hs3 o (by omega) ho).trans (ha0.1.2 o ho)⟩, fun o h1 h2 => ha3.2 o (by omega) h2⟩
            try simp (disch := first | omega | (simp; done) | fail) [wrap64c, if_pos, if_neg, opAnd, opOr, opXor, opDiff, opShr, opBit, ntw, csw, g_h0, hLw0, c0, c3', c2, e1, e2, e6, e7, hlU, hlu2, g1', hLw, hlt, hs2, e8, e9, e35, e36, hlt2, hq1, hjR, hap]
            refine loopK_next _ ?hm ?hf ⟨k + 1, u3, rfl, (by simp (disch := first | omega | (simp; done) | fail) [wrap64c, if_pos, if_neg, opAnd, opOr, opXor, opDiff, opShr, opBit, ntw, csw, g_h0, hLw0, c0, c3', c2, e1, e2, e6, e7, hlU, hlu2, g1', hLw, hlt, hs2, e8, e9, e35, e36, hlt2, hq1, hjR] <;> omega), (by simp [greedS, ← hs]), (by first | omega | assumption | (simp (disch := first | omega | (simp; done) | fail) [wrap64c, if_pos, if_neg, opAnd, opOr, opXor, opDiff, opShr, opBit, ntw, csw, g_h0, hLw0, c0, c3', c2, e1, e2, e6, e7, hlU, hlu2, g1', hLw, hlt, hs2, e8, e9, e35, e36, hlt2, hq1, hjR] <;> omega)), ha3, k3, (by simp only [greedS, ← hs]; rw [toN_snoc]; exact hu3)⟩
            (case hm => first | omega | (simp; omega))
            (case hf => simp [FrameL, ntw, csw, g_h0, hLw0, c0, c3', c2, e1, e2, e6, e7, hlU, hlu2, g1', hLw, hlt, hs2, e8, e9, e35, e36, hlt2, hq1, hjR, f1_0, f2_0])
        · have hke : k = n := by omega
          try simp (disch := first | omega | (simp; done) | fail) [wrap64c, if_pos, if_neg, opAnd, opOr, opXor, opDiff, opShr, opBit, ntw, csw, g_h0, hLw0, c0, c3', c2, e1, e2, e6, e7, hlU, hlu2, g1', hLw, hlt]
          refine done_ret rfl ⟨ha, _, by simp [c1]; rfl, ?_⟩
          rw [hke] at hu
          rw [fwR, if_pos c1, natsOf_toN]
          exact (hu.own (by simp [greed_len]; omega)).sub fun o ho => ⟨by have := ho.1; omega, ho.2⟩
    · have c3' : ((R.length : Int) != N) = true := by simp [c3]
      have c1 : fwB N X R = false := by simp [fwB, ordB, c3]
      try simp (disch := first | omega | (simp; done) | fail) [wrap64c, if_pos, if_neg, opAnd, opOr, opXor, opDiff, opShr, opBit, ntw, csw, g_h0, hLw0, c0, c3']
      refine done_ret rfl ⟨k_h0, _, by simp [c1]; rfl, ?_⟩
      rw [fwR, if_neg (by simp [c1])]
      exact .nil _ _
end Go.Proofs.Ytnncipcldbopgaa
namespace Go.Proofs.Ytnncipcldbopgaa
set_option linter.unusedSimpArgs false
set_option linter.unusedVariables false
set_option maxHeartbeats 4000000
open Go Go.Eng
attribute [local irreducible] WD RunD PreD Runs CallOK
end Go.Proofs.Ytnncipcldbopgaa
namespace Go.Proofs.Ytnncipcldbopgaa
set_option linter.unusedSimpArgs false
set_option linter.unusedVariables false
set_option maxHeartbeats 4000000
open Go Go.Eng
attribute [local irreducible] WD RunD PreD Runs CallOK
theorem drawCostAt_ok (h : Hp) (v : Value) (bs : List Int) (hb : BytesF h.next h v bs) : ∃ u h', CallOK Try.prog 108 #[v] h u h' ∧ Adds h h' ∧ ∃ s N X w L, ∃ a i : Int, u = .tuple #[s, w, .int .i64 a, .int .i64 i] ∧ SpaceF (fun x => h.next ≤ x) h' s N X ∧ X.length ≤ 128 ∧ GL 3 jobR (h.next + 1) h' w L ∧ L.length ≤ 9 := by
  have ntv := hb.bytes.nt
  have csv := hb.bytes.cs
  refine callY_L (args := [v]) 44 _ [.cell 2 26, .tmp 3, .tmp 4, .tmp 5] Try.func108 rfl rfl rfl ?_
  try simp (disch := first | omega | (simp; done) | fail) [wrap64c, if_pos, if_neg, opAnd, opOr, opXor, opDiff, opShr, opBit, ntv, csv]
  first | refine WY_heap fun h0 q_h0 => ?_ | refine callG_heap fun h0 q_h0 => ?_ | refine callP_heap fun h0 q_h0 => ?_ | refine callS_heap fun h0 q_h0 => ?_ | refine RY_heap fun h0 q_h0 => ?_ | refine PY_heap fun h0 q_h0 => ?_ | refine SY_heap fun h0 q_h0 => ?_ | refine doneY_heap fun h0 q_h0 => ?_ | refine loopK_heap fun h0 q_h0 => ?_ | refine thenY_heap fun h0 q_h0 => ?_ | refine thenM_heap fun h0 q_h0 => ?_
  have k0 : Adds h h0 := by rw [q_h0]; exact (by first | exact aK | exact kK)
  have n0 : h0.next = h.next + 2 := by simp [q_h0]
  have g0 : h0.get (h.next + 1) = .cells [v, .int .i64 0, .int .u64 0] true true 1 := by simp [q_h0]
  have gr0 : h0.get h.next = .cells [.int .i64 0, .slice none 0 0] true true 1 := by simp [q_h0]
  have c0 := cur_mk hb k0.1 ⟨by omega, by omega⟩ g0
  obtain ⟨_, h1, p1, d1, s, N, X, w, L, rfl, ⟨b, rfl, i1⟩, lX, j1, lL⟩ := tasked_ok h h0 (h.next + 1) 0 k0 c0 (by decide)
  have n1 := d1.nx
  have ntb := i1.ints.nt
  have csb := i1.ints.cs
  have lb := i1.lenD
  have ntw := j1.nt
  have csw := j1.cs
  have gr1 : h1.get h.next = .cells [.int .i64 0, .slice none 0 0] true true 1 := by rw [d1.sm _ (by omega) (by omega)]; exact gr0
  have hu2 : ∀ a b c d : Value, putCells [a, b] 0 [c, d] = [c, d] := fun _ _ _ _ => rfl
  refine callG_c (by simp) (by simp) ?ha (p1) ?_
  (case ha => simp (disch := first | omega | (simp; done) | fail) [wrap64c, if_pos, if_neg, opAnd, opOr, opXor, opDiff, opShr, opBit, ntv, csv, ntb, csb, lb, ntw, csw, gr1, hu2])
  try simp (disch := first | omega | (simp; done) | fail) [wrap64c, if_pos, if_neg, opAnd, opOr, opXor, opDiff, opShr, opBit, ntv, csv, ntb, csb, lb, ntw, csw, gr1, hu2]
  obtain ⟨h2, q_h2⟩ : ∃ x, x = (h1.alloc (.cells [.int .i64 0, .slice none 0 0] true true 1)).put h1.next (.cells [.int .i64 N, b] true true 1) := ⟨_, rfl⟩
  rw [← q_h2]
  have k2 : Adds h1 h2 := by rw [q_h2]; exact (by first | exact aK | exact kK)
  have n2 : h2.next = h1.next + 1 := by simp [q_h2]
  have d2 := d1.trans (DrW.of_adds d1.add d1.cur k2)
  have i2 := i1.keep k2.1
  have j2 := j1.keep jobR_steady k2.1
  have gs2 : h2.get h1.next = .cells [.int .i64 N, b] true true 1 := by simp [q_h2]
  have gr2 : h2.get h.next = .cells [.int .i64 0, .slice none 0 0] true true 1 := by rw [k2.1.2 _ (by omega)]; exact gr1
  have hne1 : ¬ h.next = h1.next := by omega
  have fin : ∀ hz : Hp, ∀ K : Nat, ∀ a i : Int, DrW h (h.next + 1) K h0 hz → IntsF (fun x => h0.next < x) hz b X → GL 3 jobR (h0.next + 1) hz w L → (Adds h (hz.put h.next (.cells [.int .i64 N, b] true true 1)) ∧ ∃ s N' X' w' L', ∃ a' i' : Int, Value.tuple #[.agg #[.int .i64 N, b], w, .int .i64 a, .int .i64 i] = .tuple #[s, w', .int .i64 a', .int .i64 i'] ∧ SpaceF (fun x => h.next ≤ x) (hz.put h.next (.cells [.int .i64 N, b] true true 1)) s N' X' ∧ X'.length ≤ 128 ∧ GL 3 jobR (h.next + 1) (hz.put h.next (.cells [.int .i64 N, b] true true 1)) w' L' ∧ L'.length ≤ 9) := fun hz K a i dz ib jz =>
    ⟨dz.add.put (Nat.le_refl _) (fun _ => rfl), _, _, _, _, _, _, _, rfl, ⟨_, rfl, (ib.same (h := hz) (h' := hz.put h.next _) ⟨Nat.le_refl _, fun x hx _ => by simp [show x ≠ h.next by omega]⟩).sub fun x hx => by omega⟩, lX, (gl_low jz (by omega)).same jobR_steady ⟨Nat.le_refl _, fun x hx _ => by simp [show x ≠ h.next by omega]⟩, lL⟩
  by_cases hX0 : X.length = 0
  · have hX0' : ((X.length : Int) == 0) = true := by simp [hX0]
    try simp (disch := first | omega | (simp; done) | fail) [wrap64c, if_pos, if_neg, opAnd, opOr, opXor, opDiff, opShr, opBit, ntv, csv, ntb, csb, lb, ntw, csw, gr1, hu2, gs2, gr2, hne1, hX0']
    exact done_ret (vs := [.agg #[.int .i64 N, b], w, .int .i64 0, .int .i64 0]) (by simp [resL]) (fin h2 _ 0 0 d2 i2 j2)
  · have hX0' : ((X.length : Int) == 0) = false := beq_false_of_ne (by omega)
    obtain ⟨_, h4, p4, r4, rfl, l4, w4⟩ := pick_ok h.next (h.next + 1) 500 h2 (X.length : Int) d2.cur (by omega)
    have hr4 := l4 (by omega)
    have d4 := d2.trans (w4.dr d2.add d2.cur)
    have n4 := w4.nx
    obtain ⟨_, h5, p5, r5, rfl, l5, w5⟩ := pick_ok h.next (h.next + 1) 502 h4 12 d4.cur (by omega)
    have d5 := d4.trans (w5.dr d4.add d4.cur)
    have n5 := w5.nx
    obtain ⟨_, h6, p6, r6, rfl, l6, w6⟩ := pick_ok h.next (h.next + 1) 504 h5 7 d5.cur (by omega)
    have d6 := d5.trans (w6.dr d5.add d5.cur)
    have n6 := w6.nx
    obtain ⟨_, h7, p7, r7, rfl, l7, w7⟩ := pick_ok h.next (h.next + 1) 506 h6 9 d6.cur (by omega)
    have d7 := d6.trans (w7.dr d6.add d6.cur)
    have n7 := w7.nx
    have d27 : DrW h (h.next + 1) 508 h2 h7 := (((w4.dr d2.add d2.cur).trans (w5.dr d4.add d4.cur)).trans (w6.dr d5.add d5.cur)).trans (w7.dr d6.add d6.cur)
    have gr7 : h7.get h.next = .cells [.int .i64 0, .slice none 0 0] true true 1 := by rw [d27.sm _ (by omega) (by omega)]; exact gr2
    have kf4 : KeepF (fun b => (h0.next ≤ b ∧ b < h2.next) ∨ litF [] h2.next b) h2 h4 := fun b hb => by
      rcases hb with hb | hb
      · exact w4.get _ (by omega) (by omega)
      · exact hb.elim
    have kf5 : KeepF (fun b => (h0.next ≤ b ∧ b < h2.next) ∨ litF [] h2.next b) h4 h5 := fun b hb => by
      rcases hb with hb | hb
      · exact w5.get _ (by omega) (by omega)
      · exact hb.elim
    have kf6 : KeepF (fun b => (h0.next ≤ b ∧ b < h2.next) ∨ litF [] h2.next b) h5 h6 := fun b hb => by
      rcases hb with hb | hb
      · exact w6.get _ (by omega) (by omega)
      · exact hb.elim
    have kf7 : KeepF (fun b => (h0.next ≤ b ∧ b < h2.next) ∨ litF [] h2.next b) h6 h7 := fun b hb => by
      rcases hb with hb | hb
      · exact w7.get _ (by omega) (by omega)
      · exact hb.elim
    have hq1 : h0.next ≤ h1.next := by omega
    have hq2 : h1.next < h2.next := by omega
    obtain ⟨o_y, i_y, c_y, cs_y, own_y, ex_y, es_y, q_y, b_y, g_y, l_y, r_y⟩ := i2.open ((by omega))
    have z_y : ∀ h2 : i_y < cs_y.length, cs_y[i_y] = _ := fun h2 => r_y 0 ((by omega)) h2
    have hfy : h0.next ≤ o_y := by have := b_y.1; omega
    have hby := b_y.2
    have hy4 : h4.get o_y = .cells cs_y own_y ex_y es_y := by rw [w4.get _ hby (by omega)]; exact g_y
    have hr4' : (r4 : Int) < (X.length : Int) := by omega
    try simp (disch := first | omega | (simp; done) | fail) [wrap64c, if_pos, if_neg, opAnd, opOr, opXor, opDiff, opShr, opBit, ntv, csv, ntb, csb, lb, ntw, csw, gr1, hu2, gs2, gr2, hne1, hX0', hq1, hq2, q_y, g_y, l_y, r_y, z_y, hfy, hby, hy4, hr4']
    refine WD_softC [23,26,29,33] [] [] (fun b => h0.next ≤ b ∧ b < h2.next) rfl (by kernel_rfl) (by kernel_rfl) rfl ?_
    try simp (disch := first | omega | (simp; done) | fail) [wrap64c, if_pos, if_neg, opAnd, opOr, opXor, opDiff, opShr, opBit, ntv, csv, ntb, csb, lb, ntw, csw, gr1, hu2, gs2, gr2, hne1, hX0', hq1, hq2, q_y, g_y, l_y, r_y, z_y, hfy, hby, hy4, hr4']
    refine callS_c (by simp) (by simp) ?ha (p4) ?hkf ?_
    (case ha => simp (disch := first | omega | (simp; done) | fail) [wrap64c, if_pos, if_neg, opAnd, opOr, opXor, opDiff, opShr, opBit, ntv, csv, ntb, csb, lb, ntw, csw, gr1, hu2, gs2, gr2, hne1, hX0', hq1, hq2, q_y, g_y, l_y, r_y, z_y, hfy, hby, hy4, hr4'])
    (case hkf => assumption)
    try simp (disch := first | omega | (simp; done) | fail) [wrap64c, if_pos, if_neg, opAnd, opOr, opXor, opDiff, opShr, opBit, ntv, csv, ntb, csb, lb, ntw, csw, gr1, hu2, gs2, gr2, hne1, hX0', hq1, hq2, q_y, g_y, l_y, r_y, z_y, hfy, hby, hy4, hr4']
    refine callS_c (by simp) (by simp) ?ha (p5) ?hkf ?_
    (case ha => simp (disch := first | omega | (simp; done) | fail) [wrap64c, if_pos, if_neg, opAnd, opOr, opXor, opDiff, opShr, opBit, ntv, csv, ntb, csb, lb, ntw, csw, gr1, hu2, gs2, gr2, hne1, hX0', hq1, hq2, q_y, g_y, l_y, r_y, z_y, hfy, hby, hy4, hr4'])
    (case hkf => assumption)
    try simp (disch := first | omega | (simp; done) | fail) [wrap64c, if_pos, if_neg, opAnd, opOr, opXor, opDiff, opShr, opBit, ntv, csv, ntb, csb, lb, ntw, csw, gr1, hu2, gs2, gr2, hne1, hX0', hq1, hq2, q_y, g_y, l_y, r_y, z_y, hfy, hby, hy4, hr4']
    refine callS_c (by simp) (by simp) ?ha (p6) ?hkf ?_
    (case ha => simp (disch := first | omega | (simp; done) | fail) [wrap64c, if_pos, if_neg, opAnd, opOr, opXor, opDiff, opShr, opBit, ntv, csv, ntb, csb, lb, ntw, csw, gr1, hu2, gs2, gr2, hne1, hX0', hq1, hq2, q_y, g_y, l_y, r_y, z_y, hfy, hby, hy4, hr4'])
    (case hkf => assumption)
    try simp (disch := first | omega | (simp; done) | fail) [wrap64c, if_pos, if_neg, opAnd, opOr, opXor, opDiff, opShr, opBit, ntv, csv, ntb, csb, lb, ntw, csw, gr1, hu2, gs2, gr2, hne1, hX0', hq1, hq2, q_y, g_y, l_y, r_y, z_y, hfy, hby, hy4, hr4']
    refine callS_c (by simp) (by simp) ?ha (p7) ?hkf ?_
    (case ha => simp (disch := first | omega | (simp; done) | fail) [wrap64c, if_pos, if_neg, opAnd, opOr, opXor, opDiff, opShr, opBit, ntv, csv, ntb, csb, lb, ntw, csw, gr1, hu2, gs2, gr2, hne1, hX0', hq1, hq2, q_y, g_y, l_y, r_y, z_y, hfy, hby, hy4, hr4'])
    (case hkf => assumption)
    have gr7' := gr7
    try simp (disch := first | omega | (simp; done) | fail) [wrap64c, if_pos, if_neg, opAnd, opOr, opXor, opDiff, opShr, opBit, ntv, csv, ntb, csb, lb, ntw, csw, gr1, hu2, gs2, gr2, hne1, hX0', hq1, hq2, q_y, g_y, l_y, r_y, z_y, hfy, hby, hy4, hr4', gr7']
    subst q_y
    have i7 := i2.same (d27.same (S := fun x => h0.next < x) (fun p hp => by omega))
    have j7 := j2.same jobR_steady (d27.same (S := fun x => h0.next + 1 ≤ x) (fun p hp => by omega))
    refine done_ret (vs := [.agg #[.int .i64 N, .slice (some ⟨o_y, i_y, none⟩) X.length c_y], w, .int .i64 _, .int .i64 _]) (by simp [resL]; exact ⟨rfl, rfl⟩) (fin h7 _ _ _ d7 i7 j7)
theorem drawCostOfWord_ok (h : Hp) (v : Value) (bs : List Int) (hb : BytesF h.next h v bs) : ∃ u h', CallOK Try.prog 106 #[v] h u h' ∧ Adds h h' ∧ ∃ s N X w L y W, u = .tuple #[s, w, y] ∧ SpaceF (fun x => h.next ≤ x) h' s N X ∧ X.length ≤ 128 ∧ GL 3 jobR (h.next + 1) h' w L ∧ L.length ≤ 9 ∧ Ints h' y W ∧ W.length ≤ 128 := by
  have ntv := hb.bytes.nt
  have csv := hb.bytes.cs
  refine callY_L (args := [v]) 43 _ [.cell 2 26, .tmp 3, .tmp 4] Try.func106 rfl rfl rfl ?_
  try simp (disch := first | omega | (simp; done) | fail) [wrap64c, if_pos, if_neg, opAnd, opOr, opXor, opDiff, opShr, opBit, ntv, csv]
  first | refine WY_heap fun h0 q_h0 => ?_ | refine callG_heap fun h0 q_h0 => ?_ | refine callP_heap fun h0 q_h0 => ?_ | refine callS_heap fun h0 q_h0 => ?_ | refine RY_heap fun h0 q_h0 => ?_ | refine PY_heap fun h0 q_h0 => ?_ | refine SY_heap fun h0 q_h0 => ?_ | refine doneY_heap fun h0 q_h0 => ?_ | refine loopK_heap fun h0 q_h0 => ?_ | refine thenY_heap fun h0 q_h0 => ?_ | refine thenM_heap fun h0 q_h0 => ?_
  have k0 : Adds h h0 := by rw [q_h0]; exact (by first | exact aK | exact kK)
  have n0 : h0.next = h.next + 2 := by simp [q_h0]
  have g0 : h0.get (h.next + 1) = .cells [v, .int .i64 0, .int .u64 0] true true 1 := by simp [q_h0]
  have gr0 : h0.get h.next = .cells [.int .i64 0, .slice none 0 0] true true 1 := by simp [q_h0]
  have c0 := cur_mk hb k0.1 ⟨by omega, by omega⟩ g0
  obtain ⟨_, h1, p1, d1, s, N, X, w, L, rfl, ⟨b, rfl, i1⟩, lX, j1, lL⟩ := tasked_ok h h0 (h.next + 1) 0 k0 c0 (by decide)
  have n1 := d1.nx
  have ntb := i1.ints.nt
  have csb := i1.ints.cs
  have lb := i1.lenD
  have ntw := j1.nt
  have csw := j1.cs
  have gr1 : h1.get h.next = .cells [.int .i64 0, .slice none 0 0] true true 1 := by rw [d1.sm _ (by omega) (by omega)]; exact gr0
  have hu2 : ∀ a b c d : Value, putCells [a, b] 0 [c, d] = [c, d] := fun _ _ _ _ => rfl
  refine callG_c (by simp) (by simp) ?ha (p1) ?_
  (case ha => simp (disch := first | omega | (simp; done) | fail) [wrap64c, if_pos, if_neg, opAnd, opOr, opXor, opDiff, opShr, opBit, ntv, csv, ntb, csb, lb, ntw, csw, gr1, hu2])
  try simp (disch := first | omega | (simp; done) | fail) [wrap64c, if_pos, if_neg, opAnd, opOr, opXor, opDiff, opShr, opBit, ntv, csv, ntb, csb, lb, ntw, csw, gr1, hu2]
  obtain ⟨h2, q_h2⟩ : ∃ x, x = (h1.alloc (.cells [.int .i64 0, .slice none 0 0] true true 1)).put h1.next (.cells [.int .i64 N, b] true true 1) := ⟨_, rfl⟩
  rw [← q_h2]
  have k2 : Adds h1 h2 := by rw [q_h2]; exact (by first | exact aK | exact kK)
  have n2 : h2.next = h1.next + 1 := by simp [q_h2]
  have d2 := d1.trans (DrW.of_adds d1.add d1.cur k2)
  have i2 := i1.keep k2.1
  have j2 := j1.keep jobR_steady k2.1
  have gs2 : h2.get h1.next = .cells [.int .i64 N, b] true true 1 := by simp [q_h2]
  have gr2 : h2.get h.next = .cells [.int .i64 0, .slice none 0 0] true true 1 := by rw [k2.1.2 _ (by omega)]; exact gr1
  have hne1 : ¬ h.next = h1.next := by omega
  have fin : ∀ hz : Hp, ∀ K : Nat, ∀ y W, DrW h (h.next + 1) K h0 hz → IntsF (fun x => h0.next < x) hz b X → GL 3 jobR (h0.next + 1) hz w L → IntsF (fun x => x ≠ h.next) hz y W → W.length ≤ 128 → (Adds h (hz.put h.next (.cells [.int .i64 N, b] true true 1)) ∧ ∃ s N' X' w' L' y' W', Value.tuple #[.agg #[.int .i64 N, b], w, y] = .tuple #[s, w', y'] ∧ SpaceF (fun x => h.next ≤ x) (hz.put h.next (.cells [.int .i64 N, b] true true 1)) s N' X' ∧ X'.length ≤ 128 ∧ GL 3 jobR (h.next + 1) (hz.put h.next (.cells [.int .i64 N, b] true true 1)) w' L' ∧ L'.length ≤ 9 ∧ Ints (hz.put h.next (.cells [.int .i64 N, b] true true 1)) y' W' ∧ W'.length ≤ 128) := fun hz K y W dz ib jz iy lW =>
    ⟨dz.add.put (Nat.le_refl _) (fun _ => rfl), _, _, _, _, _, _, _, rfl, ⟨_, rfl, (ib.same (h := hz) (h' := hz.put h.next _) ⟨Nat.le_refl _, fun x hx _ => by simp [show x ≠ h.next by omega]⟩).sub fun x hx => by omega⟩, lX, (gl_low jz (by omega)).same jobR_steady ⟨Nat.le_refl _, fun x hx _ => by simp [show x ≠ h.next by omega]⟩, lL, (iy.same (h := hz) (h' := hz.put h.next _) ⟨Nat.le_refl _, fun x hx _ => by simp [hx]⟩).ints, lW⟩
  have hS2 : Space h2 (.agg #[.int .i64 N, b]) N X := .mk i2.ints
  have hJ2 := jobs_of j2 (by omega)
  have q1 := grGiven_ok h2 _ w N X L hS2 hJ2 (by omega)
  try simp (disch := first | omega | (simp; done) | fail) [wrap64c, if_pos, if_neg, opAnd, opOr, opXor, opDiff, opShr, opBit, ntv, csv, ntb, csb, lb, ntw, csw, gr1, hu2, gs2, gr2, hne1]
  refine callG_c (by simp) (by simp) ?ha (q1) ?_
  (case ha => simp (disch := first | omega | (simp; done) | fail) [wrap64c, if_pos, if_neg, opAnd, opOr, opXor, opDiff, opShr, opBit, ntv, csv, ntb, csb, lb, ntw, csw, gr1, hu2, gs2, gr2, hne1])
  cases c1 : (spB N X && jobsB L N)
  · obtain ⟨h3, q_h3⟩ : ∃ x, x = h2.alloc (.cells [.int .i64 0] true true 1) := ⟨_, rfl⟩
    have k3 : Adds h2 h3 := by rw [q_h3]; exact (by first | exact aK | exact kK)
    have i3 := i2.keep k3.1
    have j3 := j2.keep jobR_steady k3.1
    have iy : IntsF (fun x => x ≠ h.next) h3 (.slice (some ⟨h2.next, 0, none⟩) 1 1) [0] := lit_ints (xs := [0]) (own := true) (ex := true) (es := 1) (by simp [q_h3]) (by simp [q_h3]) (by omega) (by simp)
    have gr3 : h3.get h.next = .cells [.int .i64 0, .slice none 0 0] true true 1 := by rw [k3.1.2 _ (by omega)]; exact gr2
    have gs3 : h3.get h1.next = .cells [.int .i64 N, b] true true 1 := by rw [k3.1.2 _ (by omega)]; exact gs2
    have gr3' := gr3
    try simp (disch := first | omega | (simp; done) | fail) [wrap64c, if_pos, if_neg, opAnd, opOr, opXor, opDiff, opShr, opBit, ntv, csv, ntb, csb, lb, ntw, csw, gr1, hu2, gs2, gr2, hne1, c1, gr3', gs3]
    rw [← q_h3]
    try simp (disch := first | omega | (simp; done) | fail) [wrap64c, if_pos, if_neg, opAnd, opOr, opXor, opDiff, opShr, opBit, ntv, csv, ntb, csb, lb, ntw, csw, gr1, hu2, gs2, gr2, hne1, c1, gr3', gs3]
    exact done_ret (vs := [.agg #[.int .i64 N, b], w, .slice (some ⟨h2.next, 0, none⟩) 1 1]) (by simp [resL]) (fin h3 _ _ [0] (d2.trans (DrW.of_adds d2.add d2.cur k3)) i3 j3 iy (by simp))
  · obtain ⟨n, fs, eN, eX, gd, gj, hLn⟩ := gvB_true c1
    have n7 := gd.n7
    obtain ⟨y4, h4, p4, d24, R, i4, lR, ltR, ndR⟩ := order_ok h h2 (h.next + 1) 500 n d2.add d2.cur (by decide) (by omega)
    rw [← eN] at p4
    have d4 := d2.trans d24
    have n4 := d24.nx
    have lR2 : (toN R).length = n := by simp [lR]
    have nty4 := i4.nt
    have csy4 := (i4.own (by omega)).ints.cs
    have i44 := i2.same (d24.same (S := fun x => h0.next < x) (fun p hp => by omega))
    have j44 := j2.same jobR_steady (d24.same (S := fun x => h0.next + 1 ≤ x) (fun p hp => by omega))
    obtain ⟨_, h5, p5, a5, u5, rfl, iu5⟩ := specFirst_ok h4 _ y4 N X (toN R) (.mk i44.ints) (i4.own (by omega)).ints (by omega)
    have d45 := DrW.of_adds d4.add d4.cur a5
    have d5 := d4.trans d45
    have n5 := a5.1.1
    have ntu5 := iu5.ints.nt
    have csu5 := iu5.ints.cs
    have lu5 : (fwR N X (toN R)).length ≤ 128 := by
      rw [fwR]
      split
      · next hf =>
        obtain ⟨n', xs', e1, e2, g', l', _⟩ := fwB_true hf
        subst e1
        rw [toN_length, greedN, greed_len]
        have := g'.n7
        omega
      · simp
    have i5 := i44.keep a5.1
    have j5 := j44.keep jobR_steady a5.1
    obtain ⟨_, h6, p6, b6, rfl, w6⟩ := one_ok h.next (h.next + 1) (500 + 2 * n) h5 5 d45.cur (by omega)
    have d56 := w6.dr d5.add (d45.cur)
    have d6 := d5.trans d56
    have n6 := w6.nx
    have i6 := i5.same (w6.same (S := fun x => h0.next < x) (fun p hp => by omega))
    have j6 := j5.same jobR_steady (w6.same (S := fun x => h0.next + 1 ≤ x) (fun p hp => by omega))
    have iu6 := iu5.read.same (w6.same (S := Btw h4.next h5.next) (fun p hp => by have := hp.1; omega))
    have gs4 : h4.get h1.next = .cells [.int .i64 N, b] true true 1 := by rw [d24.sm _ (by omega) (by omega)]; exact gs2
    have gs5 : h5.get h1.next = .cells [.int .i64 N, b] true true 1 := by rw [a5.1.2 _ (by omega)]; exact gs4
    have gs6 : h6.get h1.next = .cells [.int .i64 N, b] true true 1 := by rw [w6.get _ (by omega) (by omega)]; exact gs5
    have gr6 : h6.get h.next = .cells [.int .i64 0, .slice none 0 0] true true 1 := by rw [w6.get _ (by omega) (by omega), a5.1.2 _ (by omega), d24.sm _ (by omega) (by omega)]; exact gr2
    have kf4 : KeepF (fun b => b = h1.next ∨ litF [] h2.next b) h2 h4 := fun b hb => by
      rcases hb with rfl | hb
      · exact d24.sm _ (by omega) (by omega)
      · exact hb.elim
    have kf5 : KeepF (fun b => b = h1.next ∨ litF [] h2.next b) h4 h5 := fun b hb => by
      rcases hb with rfl | hb
      · exact a5.1.2 _ (by omega)
      · exact hb.elim
    try simp (disch := first | omega | (simp; done) | fail) [wrap64c, if_pos, if_neg, opAnd, opOr, opXor, opDiff, opShr, opBit, ntv, csv, ntb, csb, lb, ntw, csw, gr1, hu2, gs2, gr2, hne1, c1, nty4, csy4, ntu5, csu5]
    refine WD_softC [26,29] [] [] (fun b => b = h1.next) rfl (by kernel_rfl) (by kernel_rfl) rfl ?_
    try simp (disch := first | omega | (simp; done) | fail) [wrap64c, if_pos, if_neg, opAnd, opOr, opXor, opDiff, opShr, opBit, ntv, csv, ntb, csb, lb, ntw, csw, gr1, hu2, gs2, gr2, hne1, c1, nty4, csy4, ntu5, csu5]
    refine callS_c (by simp) (by simp) ?ha (p4) ?hkf ?_
    (case ha => simp (disch := first | omega | (simp; done) | fail) [wrap64c, if_pos, if_neg, opAnd, opOr, opXor, opDiff, opShr, opBit, ntv, csv, ntb, csb, lb, ntw, csw, gr1, hu2, gs2, gr2, hne1, c1, nty4, csy4, ntu5, csu5])
    (case hkf => assumption)
    try simp (disch := first | omega | (simp; done) | fail) [wrap64c, if_pos, if_neg, opAnd, opOr, opXor, opDiff, opShr, opBit, ntv, csv, ntb, csb, lb, ntw, csw, gr1, hu2, gs2, gr2, hne1, c1, nty4, csy4, ntu5, csu5]
    refine callS_c (by simp) (by simp) ?ha (p5) ?hkf ?_
    (case ha => simp (disch := first | omega | (simp; done) | fail) [wrap64c, if_pos, if_neg, opAnd, opOr, opXor, opDiff, opShr, opBit, ntv, csv, ntb, csb, lb, ntw, csw, gr1, hu2, gs2, gr2, hne1, c1, nty4, csy4, ntu5, csu5])
    (case hkf => assumption)
    try simp (disch := first | omega | (simp; done) | fail) [wrap64c, if_pos, if_neg, opAnd, opOr, opXor, opDiff, opShr, opBit, ntv, csv, ntb, csb, lb, ntw, csw, gr1, hu2, gs2, gr2, hne1, c1, nty4, csy4, ntu5, csu5]
    refine callG_c (by simp) (by simp) ?ha (p6) ?_
    (case ha => simp (disch := first | omega | (simp; done) | fail) [wrap64c, if_pos, if_neg, opAnd, opOr, opXor, opDiff, opShr, opBit, ntv, csv, ntb, csb, lb, ntw, csw, gr1, hu2, gs2, gr2, hne1, c1, nty4, csy4, ntu5, csu5])
    cases b6
    · have gs6' := gs6
      try simp (disch := first | omega | (simp; done) | fail) [wrap64c, if_pos, if_neg, opAnd, opOr, opXor, opDiff, opShr, opBit, ntv, csv, ntb, csb, lb, ntw, csw, gr1, hu2, gs2, gr2, hne1, c1, nty4, csy4, ntu5, csu5, gs6', gr6]
      exact done_ret (vs := [.agg #[.int .i64 N, b], w, u5]) (by simp [resL]) (fin h6 _ _ _ d6 i6 j6 (iu6.sub fun x hx => by have := hx.1; omega) lu5)
    · obtain ⟨y7, h7, p7, d67, R7, i7_, lR7, ltR7, ndR7⟩ := order_ok h h6 (h.next + 1) (500 + 2 * n + 2) n d6.add w6.cur (by omega) (by omega)
      rw [← eN] at p7
      have d7 := d6.trans d67
      have n7' := d67.nx
      have lR27 : (toN R7).length = n := by simp [lR7]
      have nty7 := i7_.nt
      have csy7 := (i7_.own (by omega)).ints.cs
      have i7 := i6.same (d67.same (S := fun x => h0.next < x) (fun p hp => by omega))
      have j7 := j6.same jobR_steady (d67.same (S := fun x => h0.next + 1 ≤ x) (fun p hp => by omega))
      have gs7 : h7.get h1.next = .cells [.int .i64 N, b] true true 1 := by rw [d67.sm _ (by omega) (by omega)]; exact gs6
      have gr7 : h7.get h.next = .cells [.int .i64 0, .slice none 0 0] true true 1 := by rw [d67.sm _ (by omega) (by omega)]; exact gr6
      have gs6' := gs6
      try simp (disch := first | omega | (simp; done) | fail) [wrap64c, if_pos, if_neg, opAnd, opOr, opXor, opDiff, opShr, opBit, ntv, csv, ntb, csb, lb, ntw, csw, gr1, hu2, gs2, gr2, hne1, c1, nty4, csy4, ntu5, csu5, nty7, csy7, gs6', gr6]
      refine callG_c (by simp) (by simp) ?ha (p7) ?_
      (case ha => simp (disch := first | omega | (simp; done) | fail) [wrap64c, if_pos, if_neg, opAnd, opOr, opXor, opDiff, opShr, opBit, ntv, csv, ntb, csb, lb, ntw, csw, gr1, hu2, gs2, gr2, hne1, c1, nty4, csy4, ntu5, csu5, nty7, csy7, gs6', gr6])
      have gs7' := gs7
      try simp (disch := first | omega | (simp; done) | fail) [wrap64c, if_pos, if_neg, opAnd, opOr, opXor, opDiff, opShr, opBit, ntv, csv, ntb, csb, lb, ntw, csw, gr1, hu2, gs2, gr2, hne1, c1, nty4, csy4, ntu5, csu5, nty7, csy7, gs6', gr6, gs7', gr7]
      exact done_ret (vs := [.agg #[.int .i64 N, b], w, y7]) (by simp [resL]) (fin h7 _ _ _ d7 i7 j7 ((i7_.own (by omega)).read.sub fun x hx => by have := hx.1; omega) (by omega))
end Go.Proofs.Ytnncipcldbopgaa
namespace Go.Proofs.Ytnncipcldbopgaa
set_option linter.unusedSimpArgs false
set_option linter.unusedVariables false
set_option maxHeartbeats 4000000
open Go Go.Eng
attribute [local irreducible] WD RunD PreD Runs CallOK
end Go.Proofs.Ytnncipcldbopgaa
namespace Go.Proofs.Ytnncipcldbopgaa
set_option linter.unusedSimpArgs false
set_option linter.unusedVariables false
set_option maxHeartbeats 4000000
open Go Go.Eng
attribute [local irreducible] WD RunD PreD Runs CallOK
def frP (n : Nat) (xs : List Nat) (i o : Int) (x : Nat) : Bool := ((innerN (fam xs) x : Nat) : Int) == i && ((outerN (fam xs) n x : Nat) : Int) == o
noncomputable def frR (N : Int) (X : List Int) (i o : Int) : Option Nat := if (inB N X i && setB N.toNat o) = true then (natsOf X).find? (frP N.toNat (natsOf X) i o) else none
noncomputable def frV (N : Int) (X : List Int) (i o : Int) : Int := match frR N X i o with | some x => (x : Int) | none => 0
end Go.Proofs.Ytnncipcldbopgaa
namespace Go.Proofs.Ytnncipcldbopgaa
set_option linter.unusedSimpArgs false
set_option linter.unusedVariables false
set_option maxHeartbeats 4000000
open Go Go.Eng
attribute [local irreducible] WD RunD PreD Runs CallOK
def kle (a b : Nat) : Prop := pcN a < pcN b ∨ pcN a = pcN b ∧ a ≤ b
def lasI (a o x : Nat) : Nat := if ndiff a x = 0 ∧ (pcN x < pcN o ∨ pcN x = pcN o ∧ x < o) then x else o
def lasS (a o x : Nat) : Nat := if ndiff a x = 0 ∧ pcN x ≤ pcN o then x else o
structure LeastOf (a f : Nat) (l : List Nat) (o : Nat) : Prop where
  mem : o ∈ l ∨ o = f
  abv : ndiff a o = 0
  top : kle o f
  low : ∀ x ∈ l, ndiff a x = 0 → kle o x
def aboveF (a f : Nat) (l : List Nat) : Nat := l.foldl (lasI a) f
def aboveB (a f : Nat) (l : List Nat) : Nat := l.foldr (fun x o => lasS a o x) f
noncomputable def aboveR (N : Int) (X : List Int) (a : Int) : Int := if inB N X a = true then ((aboveF a.toNat (bit N.toNat - 1) (natsOf X) : Nat) : Int) else 0
end Go.Proofs.Ytnncipcldbopgaa
namespace Go.Proofs.Ytnncipcldbopgaa
set_option linter.unusedSimpArgs false
set_option linter.unusedVariables false
set_option maxHeartbeats 4000000
open Go Go.Eng
attribute [local irreducible] WD RunD PreD Runs CallOK
end Go.Proofs.Ytnncipcldbopgaa
namespace Go.Proofs.Ytnncipcldbopgaa
set_option linter.unusedSimpArgs false
set_option linter.unusedVariables false
set_option maxHeartbeats 4000000
open Go Go.Eng
attribute [local irreducible] WD RunD PreD Runs CallOK
def cheapN (c : Nat → Nat → Int) (lim : Int) (M : Nat → Bool) (n s : Nat) : List Nat := (itemsN (outerN M n s)).filter fun i => decide (c s i ≤ lim)
def belowF (c : Nat → Nat → Int) (lim : Int) (M : Nat → Bool) (n : Nat) (ch : List Int) : Nat → Nat → Nat → Nat
  | 0, _, s => s
  | k + 1, t, s => if cheapN c lim M n s = [] then s else belowF c lim M n ch k (t + 1) (nOr s (bit (pickN ch t (cheapN c lim M n s))))
def belowN (c : Nat → Nat → Int) (lim : Int) (xs : List Nat) (n : Nat) (ch : List Int) : Nat := belowF c lim (fam xs) n ch n 0 0
noncomputable def blB (N : Int) (X : List Int) (L : List Job) (lim : Int) (ch : List Int) : Bool := gvB N X L && (decide (-10000 ≤ lim ∧ lim ≤ 10000) && chB ch 20)
noncomputable def blR (N : Int) (X : List Int) (L : List Job) (lim : Int) (ch : List Int) : Int := if blB N X L lim ch = true then ((belowN (costN L) lim (natsOf X) N.toNat ch : Nat) : Int) else 0
end Go.Proofs.Ytnncipcldbopgaa
namespace Go.Proofs.Ytnncipcldbopgaa
set_option linter.unusedSimpArgs false
set_option linter.unusedVariables false
open Go Go.Eng
theorem crit_least {n : Nat} {xs : List Nat} {L : List Job} (g : SpGood n xs) (gj : JobsOK L) (hn : L.length = n) : ∃ S i, S = setW ((greedN (costN L) xs n).take (critJ (costN L) (greedN (costN L) xs n))) 0 ∧ i = (greedN (costN L) xs n).getD (critJ (costN L) (greedN (costN L) xs n)) 0 ∧
    S ∈ xs ∧ S ≠ bit n - 1 ∧ i ∈ itemsN (outerN (fam xs) n S) ∧ costN L S i = topN (costN L) (greedN (costN L) xs n) ∧ ∀ j ∈ itemsN (outerN (fam xs) n S), topN (costN L) (greedN (costN L) xs n) ≤ costN L S j := by
  have hn1 := g.n1
  obtain ⟨_, h1⟩ := greedN_costs g gj hn
  obtain ⟨q1, q2, _⟩ := critJ_ok (costN L) (greedN (costN L) xs n) h1 (by rw [greedN, greed_len]; omega)
  generalize hj : critJ (costN L) (greedN (costN L) xs n) = j at q1 q2
  have hjn : j < n := by rw [greedN, greed_len] at q1; exact q1
  have eS : setW ((greedN (costN L) xs n).take j) 0 = (greedS (costN L) (fam xs) n j).2 := by
    show setW ((greedS (costN L) (fam xs) n n).1.take j) 0 = _
    rw [greed_take (costN L) (fam xs) n j n (by omega), greed_set]
  have eI : (greedN (costN L) xs n).getD j 0 = nextG (costN L) (fam xs) n (greedS (costN L) (fam xs) n j).2 := greed_at (costN L) (fam xs) n j hjn
  obtain ⟨m1, m2⟩ := nextG_mem (costN L) (greed_ne g (costN L) hjn)
  have hi := greed_inv g (costN L) j (by omega)
  rw [costW, eS, eI] at q2
  refine ⟨_, _, rfl, rfl, ?_⟩
  rw [eS, eI]
  exact ⟨hi.1, fun e => by have := (greed_end g (costN L) (k := j) (by omega)).1 e; omega, m2, q2, fun k hk => by have := (leastO_min _ _ _ _ m1).1 k hk; omega⟩
theorem ch_set {n : Nat} {xs : List Nat} (g : SpGood n xs) : ∀ (k s : Nat) (w : List Nat), w ∈ chF (fam xs) n k s → (setF (fam xs) n (toN w) s).isSome = true ∧ w.length = k
  | 0, s, w, hw => by
    simp [chF] at hw
    subst hw
    exact ⟨rfl, rfl⟩
  | k + 1, s, w, hw => by
    rw [chF, List.mem_flatMap] at hw
    obtain ⟨j, hj, hw⟩ := hw
    obtain ⟨t, ht, rfl⟩ := List.mem_map.1 hw
    obtain ⟨a1, a2, a3⟩ := g.learn hj
    obtain ⟨b1, b2⟩ := ch_set g k _ t ht
    refine ⟨?_, by simp [b2]⟩
    have e : stepW (fam xs) n s ((j : Nat) : Int) = some (nOr s (bit j)) := by
      rw [stepW, if_pos ⟨by omega, by omega, by simpa using a2, by simpa [fam] using a3⟩]
      simp
    show (match stepW (fam xs) n s ((j : Nat) : Int) with | some t' => setF (fam xs) n (toN t) t' | none => none).isSome = true
    rw [e]
    exact b1
theorem greed_full {n : Nat} {xs : List Nat} (g : SpGood n xs) (hs : spB (n : Int) (toN xs) = true) (c : Nat → Nat → Int) : fullB (n : Int) (toN xs) (toN (greedN c xs n)) = true := by
  obtain ⟨a, b⟩ := ch_set g n 0 _ (greed_ch g c)
  rw [fullB, wordB, hs, natsOf_toN]
  simp [a, toN_length, b]
theorem ways_le (M : Nat → Bool) (n : Nat) (c : Nat → Nat → Int) (lim : Int) : ∀ k s, waysF M n c lim k s ≤ 7 ^ k
  | 0, s => by simp [waysF]
  | k + 1, s => by
    rw [waysF]
    have h1 : ∀ l : List Nat, (l.map fun i => if c s i ≤ lim then waysF M n c lim k (nOr s (bit i)) else 0).sum ≤ l.length * 7 ^ k := by
      intro l
      induction l with
      | nil => simp
      | cons a l ih =>
        rw [List.map_cons, List.sum_cons, List.length_cons, Nat.add_mul, Nat.one_mul]
        have := ways_le M n c lim k (nOr s (bit a))
        split <;> omega
    have h2 := h1 (itemsN (outerN M n s))
    have h3 := Nat.mul_le_mul_right (7 ^ k) (items_len (outerN M n s))
    rw [Nat.pow_succ, Nat.mul_comm]
    omega
theorem ways_pos {n : Nat} {xs : List Nat} {L : List Job} (g : SpGood n xs) (gj : JobsOK L) (hn : L.length = n) : 1 ≤ waysF (fam xs) n (costN L) (topN (costN L) (greedN (costN L) xs n)) n 0 ∧ waysF (fam xs) n (costN L) (topN (costN L) (greedN (costN L) xs n)) n 0 ≤ 823543 := by
  constructor
  · rw [← ways_ch]
    refine List.countP_pos_iff.2 ⟨_, greed_ch g (costN L), ?_⟩
    exact ((topW_le (costN L) (topN (costN L) (greedN (costN L) xs n)) (greedN (costN L) xs n) 0 (-10000)).1 (Int.le_refl _)).2
  · have h := ways_le (fam xs) n (costN L) (topN (costN L) (greedN (costN L) xs n)) n 0
    have : 7 ^ n ≤ 7 ^ 7 := Nat.pow_le_pow_right (by omega) g.n7
    omega
end Go.Proofs.Ytnncipcldbopgaa
namespace Go.Proofs.Ytnncipcldbopgaa
set_option linter.unusedSimpArgs false
set_option linter.unusedVariables false
open Go Go.Eng
theorem set_ch {n : Nat} {xs : List Nat} (g : SpGood n xs) : ∀ (W : List Int) (s : Nat), (setF (fam xs) n W s).isSome = true → natsOf W ∈ chF (fam xs) n W.length s
  | [], s, _ => by simp [natsOf, chF]
  | i :: l, s, h => by
    have h' : (match stepW (fam xs) n s i with | some t => setF (fam xs) n l t | none => none).isSome = true := h
    by_cases hc : 0 ≤ i ∧ i < (n : Int) ∧ s.testBit i.toNat = false ∧ fam xs (nOr s (bit i.toNat)) = true
    · rw [stepW, if_pos hc] at h'
      obtain ⟨c1, c2, c3, c4⟩ := hc
      show i.toNat :: natsOf l ∈ chF (fam xs) n (l.length + 1) s
      rw [chF, List.mem_flatMap]
      refine ⟨i.toNat, mem_items.2 ⟨by have := g.n7; omega, ?_⟩, List.mem_map.2 ⟨_, set_ch g l _ h', rfl⟩⟩
      rw [outerN_bit, decide_eq_true (by omega : i.toNat < n), c3, c4]
      rfl
    · rw [stepW, if_neg hc] at h'
      cases h'
theorem best_le {n : Nat} {xs : List Nat} {L : List Job} (g : SpGood n xs) (gj : JobsOK L) (hn : L.length = n) {W : List Int} (hW : fullB (n : Int) (toN xs) W = true) : topN (costN L) (greedN (costN L) xs n) ≤ topN (costN L) (natsOf W) := by
  obtain ⟨_, q2⟩ := greedN_costs g gj hn
  obtain ⟨_, b2⟩ := greedy_best g (c := costN L) (fun T G i h hi => costN_mono gj T G i h (by omega)) q2
  simp only [fullB, wordB, Bool.and_eq_true, decide_eq_true_eq, natsOf_toN, Int.toNat_natCast] at hW
  have := set_ch g W 0 hW.1.2
  rw [show W.length = n by omega] at this
  exact b2 _ this
end Go.Proofs.Ytnncipcldbopgaa
namespace Go.Proofs.Ytnncipcldbopgaa
set_option linter.unusedSimpArgs false
set_option linter.unusedVariables false
set_option maxHeartbeats 4000000
open Go Go.Eng
attribute [local irreducible] WD RunD PreD Runs CallOK
end Go.Proofs.Ytnncipcldbopgaa
namespace Go.Proofs.Ytnncipcldbopgaa
set_option linter.unusedSimpArgs false
set_option linter.unusedVariables false
set_option maxHeartbeats 4000000
set_option maxRecDepth 20000
open Go Go.Eng
attribute [local irreducible] WD RunD PreD Runs CallOK
theorem lawGreedyIsBest_ok (h0 : Hp) (v : Value) (xs : List Int) (hv : Bytes h0 v xs) (w : Value) (ys : List Int) (hw : Bytes h0 w ys) : CallOK Try.prog 9 #[v, w] h0 (.bool true) h0 := by
  have ntv := hv.nt
  have csv := hv.cs
  have ntw := hw.nt
  have csw := hw.cs
  refine callY_P 335 _ [.tmp 4] Try.func9 rfl rfl rfl (by first | rfl | simp) ?_
  try simp (disch := first | omega | (simp; done) | fail) [wrap64c, if_pos, if_neg, opAnd, opOr, opXor, opDiff, opShr, opBit, ntv, csv, ntw, csw]
  refine callG_c (by simp) (by simp) ?ha (big_ok h0 _ _ _ _ hv hw) ?_
  (case ha => simp (disch := first | omega | (simp; done) | fail) [wrap64c, if_pos, if_neg, opAnd, opOr, opXor, opDiff, opShr, opBit, ntv, csv, ntw, csw])
  by_cases hbig : 1048576 < xs.length ∨ 1048576 - (xs.length : Int) < ys.length
  case pos =>
    try simp (disch := first | omega | (simp; done) | fail) [wrap64c, if_pos, if_neg, opAnd, opOr, opXor, opDiff, opShr, opBit, ntv, csv, ntw, csw, hbig]
    exact done_ret rfl (by simp)
  have lxs : xs.length ≤ 1048576 := by omega
  have lys : ys.length ≤ 1048576 := by omega
  try simp (disch := first | omega | (simp; done) | fail) [wrap64c, if_pos, if_neg, opAnd, opOr, opXor, opDiff, opShr, opBit, ntv, csv, ntw, csw, hbig]
  have K0 : Keeps h0 h0 := .refl _
  obtain ⟨_, h1, p1, a1, s1, N, X, u, L, rfl, hC, lX, hJ, lL⟩ := drawGreedy_ok h0 v xs (bytes_old hv)
  refine callG_c (by simp) (by simp) ?ha (p1) ?_
  (case ha => simp (disch := first | omega | (simp; done) | fail) [wrap64c, if_pos, if_neg, opAnd, opOr, opXor, opDiff, opShr, opBit, ntv, csv, ntw, csw, hbig])
  have n1 := a1.1.1
  have K1 := K0.trans a1.1
  have hv := hv.keep a1.1
  have hw := hw.keep a1.1
  obtain ⟨sv1, rfl, hsv1⟩ := hC
  have hsv1 := hsv1.ints
  have ntsv1 := hsv1.nt
  have cssv1 := hsv1.cs
  have hC : Space h1 (.agg #[.int .i64 N, sv1]) N X := .mk hsv1
  have hJ := jobs_of hJ (by omega)
  have ntu := hJ.nt
  have csu := hJ.cs
  have lnu := hJ.lenD
  try simp (disch := first | omega | (simp; done) | fail) [wrap64c, if_pos, if_neg, opAnd, opOr, opXor, opDiff, opShr, opBit, ntv, csv, ntw, csw, hbig, ntsv1, cssv1, ntu, csu, lnu, putCells]
  first | refine WY_heap fun h2 q_h2 => ?_ | refine callG_heap fun h2 q_h2 => ?_ | refine callP_heap fun h2 q_h2 => ?_ | refine callS_heap fun h2 q_h2 => ?_ | refine RY_heap fun h2 q_h2 => ?_ | refine PY_heap fun h2 q_h2 => ?_ | refine SY_heap fun h2 q_h2 => ?_ | refine doneY_heap fun h2 q_h2 => ?_ | refine loopK_heap fun h2 q_h2 => ?_ | refine thenY_heap fun h2 q_h2 => ?_ | refine thenM_heap fun h2 q_h2 => ?_
  have b2 : Adds h1 h2 := by rw [q_h2]; exact (by first | exact aK | exact kK)
  have n2 := b2.1.1
  have K2 := K1.trans b2.1
  have hv := hv.keep b2.1
  have hw := hw.keep b2.1
  have hC := hC.keep b2.1
  have hJ := hJ.keep b2.1
  have m2 : h2.next = h1.next + 1 := by simp [q_h2]
  have gs : h2.get h1.next = .cells [.int .i64 N, sv1] true true 1 := by simp [q_h2]
  have lX' : X.length < 2 ^ 40 := by omega
  obtain ⟨_, h3, p3, a3, u1, rfl, hu1⟩ := implGreedy_ok h2 _ u N X L hC hJ lX'
  refine callG_c (by simp) (by simp) ?ha (p3) ?_
  (case ha => simp (disch := first | omega | (simp; done) | fail) [wrap64c, if_pos, if_neg, opAnd, opOr, opXor, opDiff, opShr, opBit, ntv, csv, ntw, csw, hbig, ntsv1, cssv1, ntu, csu, lnu, gs])
  have n3 := a3.1.1
  have K3 := K2.trans a3.1
  have gs : h3.get h1.next = .cells [.int .i64 N, sv1] true true 1 := by rw [a3.1.2 _ (by omega)]; exact gs
  have hv := hv.keep a3.1
  have hw := hw.keep a3.1
  have hC := hC.keep a3.1
  have hJ := hJ.keep a3.1
  have hu1 := hu1.ints
  have ntu1 := hu1.nt
  have csu1 := hu1.cs
  have lnu1 := hu1.lenD
  try simp (disch := first | omega | (simp; done) | fail) [wrap64c, if_pos, if_neg, opAnd, opOr, opXor, opDiff, opShr, opBit, ntv, csv, ntw, csw, hbig, ntsv1, cssv1, ntu, csu, lnu, gs, ntu1, csu1, lnu1]
  obtain ⟨_, h4, p4, a4, u2, rfl, hu2⟩ := specGreedy_ok h3 _ u N X L hC hJ lX'
  refine callG_c (by simp) (by simp) ?ha (p4) ?_
  (case ha => simp (disch := first | omega | (simp; done) | fail) [wrap64c, if_pos, if_neg, opAnd, opOr, opXor, opDiff, opShr, opBit, ntv, csv, ntw, csw, hbig, ntsv1, cssv1, ntu, csu, lnu, gs, ntu1, csu1, lnu1])
  have n4 := a4.1.1
  have K4 := K3.trans a4.1
  have gs : h4.get h1.next = .cells [.int .i64 N, sv1] true true 1 := by rw [a4.1.2 _ (by omega)]; exact gs
  have hv := hv.keep a4.1
  have hw := hw.keep a4.1
  have hC := hC.keep a4.1
  have hJ := hJ.keep a4.1
  have hu1 := hu1.keep a4.1
  have hu2 := hu2.ints
  have ntu2 := hu2.nt
  have csu2 := hu2.cs
  have lnu2 := hu2.lenD
  try simp (disch := first | omega | (simp; done) | fail) [wrap64c, if_pos, if_neg, opAnd, opOr, opXor, opDiff, opShr, opBit, ntv, csv, ntw, csw, hbig, ntsv1, cssv1, ntu, csu, lnu, gs, ntu1, csu1, lnu1, ntu2, csu2, lnu2]
  have q0 := bestCost_ok h4 _ u N X L hC hJ lX'
  rw [show (spB N X && jobsB L N) = gvB N X L from rfl] at q0
  refine callG_c (by simp) (by simp) ?ha (q0) ?_
  (case ha => simp (disch := first | omega | (simp; done) | fail) [wrap64c, if_pos, if_neg, opAnd, opOr, opXor, opDiff, opShr, opBit, ntv, csv, ntw, csw, hbig, ntsv1, cssv1, ntu, csu, lnu, gs, ntu1, csu1, lnu1, ntu2, csu2, lnu2])
  try simp (disch := first | omega | (simp; done) | fail) [wrap64c, if_pos, if_neg, opAnd, opOr, opXor, opDiff, opShr, opBit, ntv, csv, ntw, csw, hbig, ntsv1, cssv1, ntu, csu, lnu, gs, ntu1, csu1, lnu1, ntu2, csu2, lnu2]
  have q1 := implPlain_ok h4 _ u N X L hC hJ lX'
  refine callG_c (by simp) (by simp) ?ha (q1) ?_
  (case ha => simp (disch := first | omega | (simp; done) | fail) [wrap64c, if_pos, if_neg, opAnd, opOr, opXor, opDiff, opShr, opBit, ntv, csv, ntw, csw, hbig, ntsv1, cssv1, ntu, csu, lnu, gs, ntu1, csu1, lnu1, ntu2, csu2, lnu2])
  try simp (disch := first | omega | (simp; done) | fail) [wrap64c, if_pos, if_neg, opAnd, opOr, opXor, opDiff, opShr, opBit, ntv, csv, ntw, csw, hbig, ntsv1, cssv1, ntu, csu, lnu, gs, ntu1, csu1, lnu1, ntu2, csu2, lnu2]
  have q2 := specPlain_ok h4 _ u N X L hC hJ lX'
  refine callG_c (by simp) (by simp) ?ha (q2) ?_
  (case ha => simp (disch := first | omega | (simp; done) | fail) [wrap64c, if_pos, if_neg, opAnd, opOr, opXor, opDiff, opShr, opBit, ntv, csv, ntw, csw, hbig, ntsv1, cssv1, ntu, csu, lnu, gs, ntu1, csu1, lnu1, ntu2, csu2, lnu2])
  try simp (disch := first | omega | (simp; done) | fail) [wrap64c, if_pos, if_neg, opAnd, opOr, opXor, opDiff, opShr, opBit, ntv, csv, ntw, csw, hbig, ntsv1, cssv1, ntu, csu, lnu, gs, ntu1, csu1, lnu1, ntu2, csu2, lnu2]
  have q3 := implCrit_ok h4 _ u N X L hC hJ lX'
  rw [show (spB N X && jobsB L N) = gvB N X L from rfl] at q3
  refine callG_c (by simp) (by simp) ?ha (q3) ?_
  (case ha => simp (disch := first | omega | (simp; done) | fail) [wrap64c, if_pos, if_neg, opAnd, opOr, opXor, opDiff, opShr, opBit, ntv, csv, ntw, csw, hbig, ntsv1, cssv1, ntu, csu, lnu, gs, ntu1, csu1, lnu1, ntu2, csu2, lnu2])
  try simp (disch := first | omega | (simp; done) | fail) [wrap64c, if_pos, if_neg, opAnd, opOr, opXor, opDiff, opShr, opBit, ntv, csv, ntw, csw, hbig, ntsv1, cssv1, ntu, csu, lnu, gs, ntu1, csu1, lnu1, ntu2, csu2, lnu2]
  have q4 := specCrit_ok h4 _ u N X L hC hJ lX'
  rw [show (spB N X && jobsB L N) = gvB N X L from rfl] at q4
  refine callG_c (by simp) (by simp) ?ha (q4) ?_
  (case ha => simp (disch := first | omega | (simp; done) | fail) [wrap64c, if_pos, if_neg, opAnd, opOr, opXor, opDiff, opShr, opBit, ntv, csv, ntw, csw, hbig, ntsv1, cssv1, ntu, csu, lnu, gs, ntu1, csu1, lnu1, ntu2, csu2, lnu2])
  try simp (disch := first | omega | (simp; done) | fail) [wrap64c, if_pos, if_neg, opAnd, opOr, opXor, opDiff, opShr, opBit, ntv, csv, ntw, csw, hbig, ntsv1, cssv1, ntu, csu, lnu, gs, ntu1, csu1, lnu1, ntu2, csu2, lnu2]
  have q5 := implCount_ok h4 _ u N X L hC hJ lX'
  rw [show (spB N X && jobsB L N) = gvB N X L from rfl] at q5
  refine callG_c (by simp) (by simp) ?ha (q5) ?_
  (case ha => simp (disch := first | omega | (simp; done) | fail) [wrap64c, if_pos, if_neg, opAnd, opOr, opXor, opDiff, opShr, opBit, ntv, csv, ntw, csw, hbig, ntsv1, cssv1, ntu, csu, lnu, gs, ntu1, csu1, lnu1, ntu2, csu2, lnu2])
  try simp (disch := first | omega | (simp; done) | fail) [wrap64c, if_pos, if_neg, opAnd, opOr, opXor, opDiff, opShr, opBit, ntv, csv, ntw, csw, hbig, ntsv1, cssv1, ntu, csu, lnu, gs, ntu1, csu1, lnu1, ntu2, csu2, lnu2]
  have q6 := specCount_ok h4 _ u N X L hC hJ lX'
  rw [show (spB N X && jobsB L N) = gvB N X L from rfl] at q6
  refine callG_c (by simp) (by simp) ?ha (q6) ?_
  (case ha => simp (disch := first | omega | (simp; done) | fail) [wrap64c, if_pos, if_neg, opAnd, opOr, opXor, opDiff, opShr, opBit, ntv, csv, ntw, csw, hbig, ntsv1, cssv1, ntu, csu, lnu, gs, ntu1, csu1, lnu1, ntu2, csu2, lnu2])
  try simp (disch := first | omega | (simp; done) | fail) [wrap64c, if_pos, if_neg, opAnd, opOr, opXor, opDiff, opShr, opBit, ntv, csv, ntw, csw, hbig, ntsv1, cssv1, ntu, csu, lnu, gs, ntu1, csu1, lnu1, ntu2, csu2, lnu2]
  refine callG_c (by simp) (by simp) ?ha (iSame_ok h4 _ _ _ _ hu1 hu2) ?_
  (case ha => simp (disch := first | omega | (simp; done) | fail) [wrap64c, if_pos, if_neg, opAnd, opOr, opXor, opDiff, opShr, opBit, ntv, csv, ntw, csw, hbig, ntsv1, cssv1, ntu, csu, lnu, gs, ntu1, csu1, lnu1, ntu2, csu2, lnu2])
  try simp (disch := first | omega | (simp; done) | fail) [wrap64c, if_pos, if_neg, opAnd, opOr, opXor, opDiff, opShr, opBit, ntv, csv, ntw, csw, hbig, ntsv1, cssv1, ntu, csu, lnu, gs, ntu1, csu1, lnu1, ntu2, csu2, lnu2]
  cases c2 : gvB N X L
  · try simp (disch := first | omega | (simp; done) | fail) [wrap64c, if_pos, if_neg, opAnd, opOr, opXor, opDiff, opShr, opBit, ntv, csv, ntw, csw, hbig, ntsv1, cssv1, ntu, csu, lnu, gs, ntu1, csu1, lnu1, ntu2, csu2, lnu2, c2]
    obtain ⟨g0, hg0⟩ : ∃ x, x = h4 := ⟨_, rfl⟩
    have K0 := K4
    rw [← hg0] at K0
    have hv := hv
    have hw := hw
    rw [← hg0] at hv
    rw [← hg0] at hw
    try rw [← hg0]
    obtain ⟨_, g1, p1, a1, s2, G, Y, z2, J, rk, R, rfl, hD, lY, hT, lJ, hR, lR⟩ := drawCostOfWord_ok g0 w ys (bytes_old hw)
    refine callG_c (by simp) (by simp) ?ha (p1) ?_
    (case ha => simp (disch := first | omega | (simp; done) | fail) [wrap64c, if_pos, if_neg, opAnd, opOr, opXor, opDiff, opShr, opBit, ntv, csv, ntw, csw, hbig, ntsv1, cssv1, ntu, csu, lnu, gs, ntu1, csu1, lnu1, ntu2, csu2, lnu2, c2])
    have n1 := a1.1.1
    have K1 := K0.trans a1.1
    have hv := hv.keep a1.1
    have hw := hw.keep a1.1
    obtain ⟨sv2, rfl, hsv2⟩ := hD
    have hsv2 := hsv2.ints
    have ntsv2 := hsv2.nt
    have cssv2 := hsv2.cs
    have hD : Space g1 (.agg #[.int .i64 G, sv2]) G Y := .mk hsv2
    have hT := jobs_of hT (by omega)
    have ntz2 := hT.nt
    have csz2 := hT.cs
    have lnz2 := hT.lenD
    have ntrk := hR.nt
    have csrk := hR.cs
    have lnrk := hR.lenD
    try simp (disch := first | omega | (simp; done) | fail) [wrap64c, if_pos, if_neg, opAnd, opOr, opXor, opDiff, opShr, opBit, ntv, csv, ntw, csw, hbig, ntsv1, cssv1, ntu, csu, lnu, gs, ntu1, csu1, lnu1, ntu2, csu2, lnu2, c2, ntsv2, cssv2, ntz2, csz2, lnz2, ntrk, csrk, lnrk, putCells]
    first | refine WY_heap fun g2 q_g2 => ?_ | refine callG_heap fun g2 q_g2 => ?_ | refine callP_heap fun g2 q_g2 => ?_ | refine callS_heap fun g2 q_g2 => ?_ | refine RY_heap fun g2 q_g2 => ?_ | refine PY_heap fun g2 q_g2 => ?_ | refine SY_heap fun g2 q_g2 => ?_ | refine doneY_heap fun g2 q_g2 => ?_ | refine loopK_heap fun g2 q_g2 => ?_ | refine thenY_heap fun g2 q_g2 => ?_ | refine thenM_heap fun g2 q_g2 => ?_
    have b2 : Adds g1 g2 := by rw [q_g2]; exact (by first | exact aK | exact kK)
    have n2 := b2.1.1
    have K2 := K1.trans b2.1
    have hv := hv.keep b2.1
    have hw := hw.keep b2.1
    have hD := hD.keep b2.1
    have hT := hT.keep b2.1
    have hR := hR.keep b2.1
    have m2 : g2.next = g1.next + 1 := by simp [q_g2]
    have gt : g2.get g1.next = .cells [.int .i64 G, sv2] true true 1 := by simp [q_g2]
    have lY' : Y.length < 2 ^ 40 := by omega
    refine callG_c (by simp) (by simp) ?ha (implCostW_ok g2 _ z2 rk G Y J R hD hT hR lY') ?_
    (case ha => simp (disch := first | omega | (simp; done) | fail) [wrap64c, if_pos, if_neg, opAnd, opOr, opXor, opDiff, opShr, opBit, ntv, csv, ntw, csw, hbig, ntsv1, cssv1, ntu, csu, lnu, gs, ntu1, csu1, lnu1, ntu2, csu2, lnu2, c2, ntsv2, cssv2, ntz2, csz2, lnz2, ntrk, csrk, lnrk, gt])
    try simp (disch := first | omega | (simp; done) | fail) [wrap64c, if_pos, if_neg, opAnd, opOr, opXor, opDiff, opShr, opBit, ntv, csv, ntw, csw, hbig, ntsv1, cssv1, ntu, csu, lnu, gs, ntu1, csu1, lnu1, ntu2, csu2, lnu2, c2, ntsv2, cssv2, ntz2, csz2, lnz2, ntrk, csrk, lnrk, gt]
    refine callG_c (by simp) (by simp) ?ha (specCostW_ok g2 _ z2 rk G Y J R hD hT hR lY') ?_
    (case ha => simp (disch := first | omega | (simp; done) | fail) [wrap64c, if_pos, if_neg, opAnd, opOr, opXor, opDiff, opShr, opBit, ntv, csv, ntw, csw, hbig, ntsv1, cssv1, ntu, csu, lnu, gs, ntu1, csu1, lnu1, ntu2, csu2, lnu2, c2, ntsv2, cssv2, ntz2, csz2, lnz2, ntrk, csrk, lnrk, gt])
    try simp (disch := first | omega | (simp; done) | fail) [wrap64c, if_pos, if_neg, opAnd, opOr, opXor, opDiff, opShr, opBit, ntv, csv, ntw, csw, hbig, ntsv1, cssv1, ntu, csu, lnu, gs, ntu1, csu1, lnu1, ntu2, csu2, lnu2, c2, ntsv2, cssv2, ntz2, csz2, lnz2, ntrk, csrk, lnrk, gt]
    cases d1 : (gvB G Y J && fullB G Y R)
    · try simp (disch := first | omega | (simp; done) | fail) [wrap64c, if_pos, if_neg, opAnd, opOr, opXor, opDiff, opShr, opBit, ntv, csv, ntw, csw, hbig, ntsv1, cssv1, ntu, csu, lnu, gs, ntu1, csu1, lnu1, ntu2, csu2, lnu2, c2, ntsv2, cssv2, ntz2, csz2, lnz2, ntrk, csrk, lnrk, gt, d1]
      obtain ⟨f0, hf0⟩ : ∃ x, x = g2 := ⟨_, rfl⟩
      have K0 := K2
      rw [← hf0] at K0
      have hv := hv
      have hw := hw
      rw [← hf0] at hv
      rw [← hf0] at hw
      try rw [← hf0]
      obtain ⟨_, f1, p1, a1, s3, P, Z, z3, M, aa, ii, rfl, hE, lZ, hM, lM⟩ := drawCostAt_ok f0 w ys (bytes_old hw)
      refine callG_c (by simp) (by simp) ?ha (p1) ?_
      (case ha => simp (disch := first | omega | (simp; done) | fail) [wrap64c, if_pos, if_neg, opAnd, opOr, opXor, opDiff, opShr, opBit, ntv, csv, ntw, csw, hbig, ntsv1, cssv1, ntu, csu, lnu, gs, ntu1, csu1, lnu1, ntu2, csu2, lnu2, c2, ntsv2, cssv2, ntz2, csz2, lnz2, ntrk, csrk, lnrk, gt, d1])
      have n1 := a1.1.1
      have K1 := K0.trans a1.1
      have hv := hv.keep a1.1
      have hw := hw.keep a1.1
      obtain ⟨sv3, rfl, hsv3⟩ := hE
      have hsv3 := hsv3.ints
      have ntsv3 := hsv3.nt
      have cssv3 := hsv3.cs
      have hE : Space f1 (.agg #[.int .i64 P, sv3]) P Z := .mk hsv3
      have hM := jobs_of hM (by omega)
      have ntz3 := hM.nt
      have csz3 := hM.cs
      have lnz3 := hM.lenD
      try simp (disch := first | omega | (simp; done) | fail) [wrap64c, if_pos, if_neg, opAnd, opOr, opXor, opDiff, opShr, opBit, ntv, csv, ntw, csw, hbig, ntsv1, cssv1, ntu, csu, lnu, gs, ntu1, csu1, lnu1, ntu2, csu2, lnu2, c2, ntsv2, cssv2, ntz2, csz2, lnz2, ntrk, csrk, lnrk, gt, d1, ntsv3, cssv3, ntz3, csz3, lnz3, putCells]
      first | refine WY_heap fun f2 q_f2 => ?_ | refine callG_heap fun f2 q_f2 => ?_ | refine callP_heap fun f2 q_f2 => ?_ | refine callS_heap fun f2 q_f2 => ?_ | refine RY_heap fun f2 q_f2 => ?_ | refine PY_heap fun f2 q_f2 => ?_ | refine SY_heap fun f2 q_f2 => ?_ | refine doneY_heap fun f2 q_f2 => ?_ | refine loopK_heap fun f2 q_f2 => ?_ | refine thenY_heap fun f2 q_f2 => ?_ | refine thenM_heap fun f2 q_f2 => ?_
      have b2 : Adds f1 f2 := by rw [q_f2]; exact (by first | exact aK | exact kK)
      have n2 := b2.1.1
      have K2 := K1.trans b2.1
      have hv := hv.keep b2.1
      have hw := hw.keep b2.1
      have hE := hE.keep b2.1
      have hM := hM.keep b2.1
      have m2 : f2.next = f1.next + 1 := by simp [q_f2]
      have gu : f2.get f1.next = .cells [.int .i64 P, sv3] true true 1 := by simp [q_f2]
      have lZ' : Z.length < 2 ^ 40 := by omega
      refine callG_c (by simp) (by simp) ?ha (implAtC_ok f2 _ z3 P Z M aa ii hE hM lZ') ?_
      (case ha => simp (disch := first | omega | (simp; done) | fail) [wrap64c, if_pos, if_neg, opAnd, opOr, opXor, opDiff, opShr, opBit, ntv, csv, ntw, csw, hbig, ntsv1, cssv1, ntu, csu, lnu, gs, ntu1, csu1, lnu1, ntu2, csu2, lnu2, c2, ntsv2, cssv2, ntz2, csz2, lnz2, ntrk, csrk, lnrk, gt, d1, ntsv3, cssv3, ntz3, csz3, lnz3, gu])
      try simp (disch := first | omega | (simp; done) | fail) [wrap64c, if_pos, if_neg, opAnd, opOr, opXor, opDiff, opShr, opBit, ntv, csv, ntw, csw, hbig, ntsv1, cssv1, ntu, csu, lnu, gs, ntu1, csu1, lnu1, ntu2, csu2, lnu2, c2, ntsv2, cssv2, ntz2, csz2, lnz2, ntrk, csrk, lnrk, gt, d1, ntsv3, cssv3, ntz3, csz3, lnz3, gu]
      refine callG_c (by simp) (by simp) ?ha (specAtC_ok f2 _ z3 P Z M aa ii hE hM lZ') ?_
      (case ha => simp (disch := first | omega | (simp; done) | fail) [wrap64c, if_pos, if_neg, opAnd, opOr, opXor, opDiff, opShr, opBit, ntv, csv, ntw, csw, hbig, ntsv1, cssv1, ntu, csu, lnu, gs, ntu1, csu1, lnu1, ntu2, csu2, lnu2, c2, ntsv2, cssv2, ntz2, csz2, lnz2, ntrk, csrk, lnrk, gt, d1, ntsv3, cssv3, ntz3, csz3, lnz3, gu])
      try simp (disch := first | omega | (simp; done) | fail) [wrap64c, if_pos, if_neg, opAnd, opOr, opXor, opDiff, opShr, opBit, ntv, csv, ntw, csw, hbig, ntsv1, cssv1, ntu, csu, lnu, gs, ntu1, csu1, lnu1, ntu2, csu2, lnu2, c2, ntsv2, cssv2, ntz2, csz2, lnz2, ntrk, csrk, lnrk, gt, d1, ntsv3, cssv3, ntz3, csz3, lnz3, gu]
      exact done_ret rfl (by simp [K2])
    · have d2 := d1
      rw [Bool.and_eq_true] at d2
      obtain ⟨d3, d4⟩ := d2
      obtain ⟨m2, ys2, eG, eY, gd2, gj2, hL2⟩ := gvB_true d3
      subst eG eY
      have d5 := best_le gd2 gj2 hL2 d4
      have ec1 : costR (m2 : Int) (toN ys2) J R = topN (costN J) (natsOf R) := by rw [costR, if_pos d1]
      have q1 := bestCost_ok g2 _ z2 (m2 : Int) (toN ys2) J hD hT lY'
      have d6 : (spB (m2 : Int) (toN ys2) && jobsB J (m2 : Int)) = true := d3
      rw [d6, show bestC (m2 : Int) (toN ys2) J = topN (costN J) (greedN (costN J) ys2 m2) by rw [bestC, if_pos d6, natsOf_toN]; rfl] at q1
      have d7 : ¬ topN (costN J) (natsOf R) < topN (costN J) (greedN (costN J) ys2 m2) := by omega
      try simp (disch := first | omega | (simp; done) | fail) [wrap64c, if_pos, if_neg, opAnd, opOr, opXor, opDiff, opShr, opBit, ntv, csv, ntw, csw, hbig, ntsv1, cssv1, ntu, csu, lnu, gs, ntu1, csu1, lnu1, ntu2, csu2, lnu2, c2, ntsv2, cssv2, ntz2, csz2, lnz2, ntrk, csrk, lnrk, gt, d1, ec1, d7]
      refine callG_c (by simp) (by simp) ?ha (q1) ?_
      (case ha => simp (disch := first | omega | (simp; done) | fail) [wrap64c, if_pos, if_neg, opAnd, opOr, opXor, opDiff, opShr, opBit, ntv, csv, ntw, csw, hbig, ntsv1, cssv1, ntu, csu, lnu, gs, ntu1, csu1, lnu1, ntu2, csu2, lnu2, c2, ntsv2, cssv2, ntz2, csz2, lnz2, ntrk, csrk, lnrk, gt, d1, ec1, d7])
      try simp (disch := first | omega | (simp; done) | fail) [wrap64c, if_pos, if_neg, opAnd, opOr, opXor, opDiff, opShr, opBit, ntv, csv, ntw, csw, hbig, ntsv1, cssv1, ntu, csu, lnu, gs, ntu1, csu1, lnu1, ntu2, csu2, lnu2, c2, ntsv2, cssv2, ntz2, csz2, lnz2, ntrk, csrk, lnrk, gt, d1, ec1, d7]
      obtain ⟨f0, hf0⟩ : ∃ x, x = g2 := ⟨_, rfl⟩
      have K0 := K2
      rw [← hf0] at K0
      have hv := hv
      have hw := hw
      rw [← hf0] at hv
      rw [← hf0] at hw
      try rw [← hf0]
      obtain ⟨_, f1, p1, a1, s3, P, Z, z3, M, aa, ii, rfl, hE, lZ, hM, lM⟩ := drawCostAt_ok f0 w ys (bytes_old hw)
      refine callG_c (by simp) (by simp) ?ha (p1) ?_
      (case ha => simp (disch := first | omega | (simp; done) | fail) [wrap64c, if_pos, if_neg, opAnd, opOr, opXor, opDiff, opShr, opBit, ntv, csv, ntw, csw, hbig, ntsv1, cssv1, ntu, csu, lnu, gs, ntu1, csu1, lnu1, ntu2, csu2, lnu2, c2, ntsv2, cssv2, ntz2, csz2, lnz2, ntrk, csrk, lnrk, gt, d1, ec1, d7])
      have n1 := a1.1.1
      have K1 := K0.trans a1.1
      have hv := hv.keep a1.1
      have hw := hw.keep a1.1
      obtain ⟨sv3, rfl, hsv3⟩ := hE
      have hsv3 := hsv3.ints
      have ntsv3 := hsv3.nt
      have cssv3 := hsv3.cs
      have hE : Space f1 (.agg #[.int .i64 P, sv3]) P Z := .mk hsv3
      have hM := jobs_of hM (by omega)
      have ntz3 := hM.nt
      have csz3 := hM.cs
      have lnz3 := hM.lenD
      try simp (disch := first | omega | (simp; done) | fail) [wrap64c, if_pos, if_neg, opAnd, opOr, opXor, opDiff, opShr, opBit, ntv, csv, ntw, csw, hbig, ntsv1, cssv1, ntu, csu, lnu, gs, ntu1, csu1, lnu1, ntu2, csu2, lnu2, c2, ntsv2, cssv2, ntz2, csz2, lnz2, ntrk, csrk, lnrk, gt, d1, ec1, d7, ntsv3, cssv3, ntz3, csz3, lnz3, putCells]
      first | refine WY_heap fun f2 q_f2 => ?_ | refine callG_heap fun f2 q_f2 => ?_ | refine callP_heap fun f2 q_f2 => ?_ | refine callS_heap fun f2 q_f2 => ?_ | refine RY_heap fun f2 q_f2 => ?_ | refine PY_heap fun f2 q_f2 => ?_ | refine SY_heap fun f2 q_f2 => ?_ | refine doneY_heap fun f2 q_f2 => ?_ | refine loopK_heap fun f2 q_f2 => ?_ | refine thenY_heap fun f2 q_f2 => ?_ | refine thenM_heap fun f2 q_f2 => ?_
      have b2 : Adds f1 f2 := by rw [q_f2]; exact (by first | exact aK | exact kK)
      have n2 := b2.1.1
      have K2 := K1.trans b2.1
      have hv := hv.keep b2.1
      have hw := hw.keep b2.1
      have hE := hE.keep b2.1
      have hM := hM.keep b2.1
      have m2 : f2.next = f1.next + 1 := by simp [q_f2]
      have gu : f2.get f1.next = .cells [.int .i64 P, sv3] true true 1 := by simp [q_f2]
      have lZ' : Z.length < 2 ^ 40 := by omega
      refine callG_c (by simp) (by simp) ?ha (implAtC_ok f2 _ z3 P Z M aa ii hE hM lZ') ?_
      (case ha => simp (disch := first | omega | (simp; done) | fail) [wrap64c, if_pos, if_neg, opAnd, opOr, opXor, opDiff, opShr, opBit, ntv, csv, ntw, csw, hbig, ntsv1, cssv1, ntu, csu, lnu, gs, ntu1, csu1, lnu1, ntu2, csu2, lnu2, c2, ntsv2, cssv2, ntz2, csz2, lnz2, ntrk, csrk, lnrk, gt, d1, ec1, d7, ntsv3, cssv3, ntz3, csz3, lnz3, gu])
      try simp (disch := first | omega | (simp; done) | fail) [wrap64c, if_pos, if_neg, opAnd, opOr, opXor, opDiff, opShr, opBit, ntv, csv, ntw, csw, hbig, ntsv1, cssv1, ntu, csu, lnu, gs, ntu1, csu1, lnu1, ntu2, csu2, lnu2, c2, ntsv2, cssv2, ntz2, csz2, lnz2, ntrk, csrk, lnrk, gt, d1, ec1, d7, ntsv3, cssv3, ntz3, csz3, lnz3, gu]
      refine callG_c (by simp) (by simp) ?ha (specAtC_ok f2 _ z3 P Z M aa ii hE hM lZ') ?_
      (case ha => simp (disch := first | omega | (simp; done) | fail) [wrap64c, if_pos, if_neg, opAnd, opOr, opXor, opDiff, opShr, opBit, ntv, csv, ntw, csw, hbig, ntsv1, cssv1, ntu, csu, lnu, gs, ntu1, csu1, lnu1, ntu2, csu2, lnu2, c2, ntsv2, cssv2, ntz2, csz2, lnz2, ntrk, csrk, lnrk, gt, d1, ec1, d7, ntsv3, cssv3, ntz3, csz3, lnz3, gu])
      try simp (disch := first | omega | (simp; done) | fail) [wrap64c, if_pos, if_neg, opAnd, opOr, opXor, opDiff, opShr, opBit, ntv, csv, ntw, csw, hbig, ntsv1, cssv1, ntu, csu, lnu, gs, ntu1, csu1, lnu1, ntu2, csu2, lnu2, c2, ntsv2, cssv2, ntz2, csz2, lnz2, ntrk, csrk, lnrk, gt, d1, ec1, d7, ntsv3, cssv3, ntz3, csz3, lnz3, gu]
      exact done_ret rfl (by simp [K2])
  · obtain ⟨n, fs, eN, eX, gd, gj, hLn⟩ := gvB_true c2
    subst eN eX
    have n7 := gd.n7
    have hbn := bit7 n7
    have spg : spB (n : Int) (toN fs) = true := spB_of gd
    have gvt' : (spB (n : Int) (toN fs) && jobsB L (n : Int)) = true := c2
    obtain ⟨tp, htp⟩ : ∃ q, q = topN (costN L) (greedN (costN L) fs n) := ⟨_, rfl⟩
    obtain ⟨S, it, hS, hit, s1, s2, s3, s4, s5⟩ := crit_least gd gj hLn
    rw [← htp] at s4 s5
    have slt := gd.lt S s1
    have iti := (mem_items.1 s3)
    obtain ⟨it1, it2, it3⟩ := gd.learn s3
    obtain ⟨cn, hcn⟩ : ∃ q, q = waysF (fam fs) n (costN L) (topN (costN L) (greedN (costN L) fs n)) n 0 := ⟨_, rfl⟩
    have hcn1 := ways_pos gd gj hLn
    rw [← hcn] at hcn1
    have eB : bestC (n : Int) (toN fs) L = tp := by rw [bestC, if_pos gvt', natsOf_toN, htp]; rfl
    have eI : critI (n : Int) (toN fs) L = (it : Int) := by rw [critI, if_pos gvt', natsOf_toN, hit]; rfl
    have eS : critS (n : Int) (toN fs) L = (S : Int) := by rw [critS, if_pos gvt', natsOf_toN, hS]; rfl
    have eC : cntB (n : Int) (toN fs) L = (cn : Int) := by
      rw [cntB, if_pos gvt', natsOf_toN, Int.toNat_natCast, ← hcn]
      exact wrap64c _ (by omega) (by omega)
    have eG : greedR (n : Int) (toN fs) L = toN (greedN (costN L) fs n) := by rw [greedR, if_pos c2, natsOf_toN]; rfl
    have fl : fullB (n : Int) (toN fs) (greedR (n : Int) (toN fs) L) = true := eG ▸ greed_full gd spg (costN L)
    have gfl : (gvB (n : Int) (toN fs) L && fullB (n : Int) (toN fs) (greedR (n : Int) (toN fs) L)) = true := by rw [c2, fl]; rfl
    have eW : costR (n : Int) (toN fs) L (greedR (n : Int) (toN fs) L) = tp := by rw [costR, if_pos gfl, eG, natsOf_toN, htp]
    have eB' := eB
    have p1 := implCostW_ok h4 _ u u1 (n : Int) (toN fs) L _ hC hJ hu1 lX'
    rw [gfl, eW] at p1
    have p2 := iWord_ok h4 _ u1 (n : Int) (toN fs) _ hC hu1 lX'
    rw [fl] at p2
    have one1 : oneB (n : Int) (toN fs) (S : Int) = true := by simp [oneB, spg, s1, mem_toN]
    obtain ⟨o, ho⟩ : ∃ q, q = outerN (fam fs) n S := ⟨_, rfl⟩
    have olt : o < bit n := ho ▸ outerN_lt _ _ _
    have aok : ∀ j, j < n → o.testBit j = true → atOK (n : Int) (toN fs) L (S : Int) (j : Int) = true := fun j hj xb => by
      rw [atOK, c2, one1, natsOf_toN, Int.toNat_natCast, Int.toNat_natCast, Int.toNat_natCast, ← ho, xb]
      simp; omega
    have aC : ∀ j, j < n → o.testBit j = true → atC (n : Int) (toN fs) L (S : Int) (j : Int) = costN L S j := fun j hj xb => by rw [atC, if_pos (aok j hj xb)]; rfl
    have p3 := implAtC_ok h4 _ u (n : Int) (toN fs) L (S : Int) (it : Int) hC hJ lX'
    rw [aok it it1 (ho ▸ iti.2), aC it it1 (ho ▸ iti.2), s4] at p3
    have p4 := implOuter_ok h4 _ (n : Int) (toN fs) (S : Int) hC lX'
    rw [one1, show outerR (n : Int) (toN fs) (S : Int) = (o : Int) by rw [outerR, if_pos one1, natsOf_toN, ho]; rfl] at p4
    have cn1 : ¬ (cn : Int) < 1 := by omega
    try simp (disch := first | omega | (simp; done) | fail) [wrap64c, if_pos, if_neg, opAnd, opOr, opXor, opDiff, opShr, opBit, ntv, csv, ntw, csw, hbig, ntsv1, cssv1, ntu, csu, lnu, gs, ntu1, csu1, lnu1, ntu2, csu2, lnu2, c2, eB', eI, eS, eC, cn1]
    refine callG_c (by simp) (by simp) ?ha (p1) ?_
    (case ha => simp (disch := first | omega | (simp; done) | fail) [wrap64c, if_pos, if_neg, opAnd, opOr, opXor, opDiff, opShr, opBit, ntv, csv, ntw, csw, hbig, ntsv1, cssv1, ntu, csu, lnu, gs, ntu1, csu1, lnu1, ntu2, csu2, lnu2, c2, eB', eI, eS, eC, cn1])
    try simp (disch := first | omega | (simp; done) | fail) [wrap64c, if_pos, if_neg, opAnd, opOr, opXor, opDiff, opShr, opBit, ntv, csv, ntw, csw, hbig, ntsv1, cssv1, ntu, csu, lnu, gs, ntu1, csu1, lnu1, ntu2, csu2, lnu2, c2, eB', eI, eS, eC, cn1]
    refine callG_c (by simp) (by simp) ?ha (p2) ?_
    (case ha => simp (disch := first | omega | (simp; done) | fail) [wrap64c, if_pos, if_neg, opAnd, opOr, opXor, opDiff, opShr, opBit, ntv, csv, ntw, csw, hbig, ntsv1, cssv1, ntu, csu, lnu, gs, ntu1, csu1, lnu1, ntu2, csu2, lnu2, c2, eB', eI, eS, eC, cn1])
    try simp (disch := first | omega | (simp; done) | fail) [wrap64c, if_pos, if_neg, opAnd, opOr, opXor, opDiff, opShr, opBit, ntv, csv, ntw, csw, hbig, ntsv1, cssv1, ntu, csu, lnu, gs, ntu1, csu1, lnu1, ntu2, csu2, lnu2, c2, eB', eI, eS, eC, cn1]
    refine callG_c (by simp) (by simp) ?ha (p3) ?_
    (case ha => simp (disch := first | omega | (simp; done) | fail) [wrap64c, if_pos, if_neg, opAnd, opOr, opXor, opDiff, opShr, opBit, ntv, csv, ntw, csw, hbig, ntsv1, cssv1, ntu, csu, lnu, gs, ntu1, csu1, lnu1, ntu2, csu2, lnu2, c2, eB', eI, eS, eC, cn1])
    try simp (disch := first | omega | (simp; done) | fail) [wrap64c, if_pos, if_neg, opAnd, opOr, opXor, opDiff, opShr, opBit, ntv, csv, ntw, csw, hbig, ntsv1, cssv1, ntu, csu, lnu, gs, ntu1, csu1, lnu1, ntu2, csu2, lnu2, c2, eB', eI, eS, eC, cn1]
    refine callG_c (by simp) (by simp) ?ha (p4) ?_
    (case ha => simp (disch := first | omega | (simp; done) | fail) [wrap64c, if_pos, if_neg, opAnd, opOr, opXor, opDiff, opShr, opBit, ntv, csv, ntw, csw, hbig, ntsv1, cssv1, ntu, csu, lnu, gs, ntu1, csu1, lnu1, ntu2, csu2, lnu2, c2, eB', eI, eS, eC, cn1])
    try simp (disch := first | omega | (simp; done) | fail) [wrap64c, if_pos, if_neg, opAnd, opOr, opXor, opDiff, opShr, opBit, ntv, csv, ntw, csw, hbig, ntsv1, cssv1, ntu, csu, lnu, gs, ntu1, csu1, lnu1, ntu2, csu2, lnu2, c2, eB', eI, eS, eC, cn1]
    refine WD_loopC [1, 5, 6, 11, 18, 31] (fun m tm h' => ∃ j, m = n - j ∧ h4 = h' ∧ tm 33 = .int .i64 (j : Int) ∧ (j ≤ n)) _ ⟨0, rfl, rfl, (by simp (disch := first | omega | (simp; done) | fail) [wrap64c, if_pos, if_neg, opAnd, opOr, opXor, opDiff, opShr, opBit, ntv, csv, ntw, csw, hbig, ntsv1, cssv1, ntu, csu, lnu, gs, ntu1, csu1, lnu1, ntu2, csu2, lnu2, c2, eB', eI, eS, eC, cn1]), (by first | omega | assumption | (simp (disch := first | omega | (simp; done) | fail) [wrap64c, if_pos, if_neg, opAnd, opOr, opXor, opDiff, opShr, opBit, ntv, csv, ntw, csw, hbig, ntsv1, cssv1, ntu, csu, lnu, gs, ntu1, csu1, lnu1, ntu2, csu2, lnu2, c2, eB', eI, eS, eC, cn1] <;> omega))⟩ ?_
    rintro m tm h' hFr ⟨j, rfl, rfl, e33, hj⟩
    simp only [FrameL] at hFr
    obtain ⟨f1_0, f5_0, f6_0, f11_0, f18_0, f31_0, -⟩ := hFr
    try simp (disch := first | omega | (simp; done) | fail) [wrap64c, if_pos, if_neg, opAnd, opOr, opXor, opDiff, opShr, opBit, ntv, csv, ntw, csw, hbig, ntsv1, cssv1, ntu, csu, lnu, gs, ntu1, csu1, lnu1, ntu2, csu2, lnu2, c2, eB', eI, eS, eC, cn1] at f1_0 f5_0 f6_0 f11_0 f18_0 f31_0
    have e1 := f1_0
    have e5 := f5_0
    have e6 := f6_0
    have e11 := f11_0
    have e18 := f18_0
    have e31 := f31_0
    by_cases hlt : j < n
    · have tx := shrMod o j
      have hor : nShr o j ≤ o := nShr_le _ _
      cases xb : o.testBit j
      · rw [xb] at tx
        have tx := tx
        try simp (disch := first | omega | (simp; done) | fail) [wrap64c, if_pos, if_neg, opAnd, opOr, opXor, opDiff, opShr, opBit, ntv, csv, ntw, csw, hbig, ntsv1, cssv1, ntu, csu, lnu, gs, ntu1, csu1, lnu1, ntu2, csu2, lnu2, c2, eB', eI, eS, eC, cn1, e1, e5, e6, e11, e18, e31, e33, hlt, tx]
        refine loopK_next _ ?hm ?hf ⟨j + 1, rfl, rfl, (by simp (disch := first | omega | (simp; done) | fail) [wrap64c, if_pos, if_neg, opAnd, opOr, opXor, opDiff, opShr, opBit, ntv, csv, ntw, csw, hbig, ntsv1, cssv1, ntu, csu, lnu, gs, ntu1, csu1, lnu1, ntu2, csu2, lnu2, c2, eB', eI, eS, eC, cn1, e1, e5, e6, e11, e18, e31, e33, hlt, tx] <;> omega), (by first | omega | assumption | (simp (disch := first | omega | (simp; done) | fail) [wrap64c, if_pos, if_neg, opAnd, opOr, opXor, opDiff, opShr, opBit, ntv, csv, ntw, csw, hbig, ntsv1, cssv1, ntu, csu, lnu, gs, ntu1, csu1, lnu1, ntu2, csu2, lnu2, c2, eB', eI, eS, eC, cn1, e1, e5, e6, e11, e18, e31, e33, hlt, tx] <;> omega))⟩
        (case hm => first | omega | (simp; omega))
        (case hf => simp [FrameL, ntv, csv, ntw, csw, hbig, ntsv1, cssv1, ntu, csu, lnu, gs, ntu1, csu1, lnu1, ntu2, csu2, lnu2, c2, eB', eI, eS, eC, cn1, e1, e5, e6, e11, e18, e31, e33, hlt, tx, f1_0, f5_0, f6_0, f11_0, f18_0, f31_0])
      · rw [xb] at tx
        have tx := tx
        have hmi : j ∈ itemsN (outerN (fam fs) n S) := mem_items.2 ⟨by omega, ho ▸ xb⟩
        have hge := s5 j hmi
        have q9 := implAtC_ok h4 _ u (n : Int) (toN fs) L (S : Int) (j : Int) hC hJ lX'
        rw [aok j hlt xb, aC j hlt xb] at q9
        have hng : ¬ costN L S j < tp := by omega
        try simp (disch := first | omega | (simp; done) | fail) [wrap64c, if_pos, if_neg, opAnd, opOr, opXor, opDiff, opShr, opBit, ntv, csv, ntw, csw, hbig, ntsv1, cssv1, ntu, csu, lnu, gs, ntu1, csu1, lnu1, ntu2, csu2, lnu2, c2, eB', eI, eS, eC, cn1, e1, e5, e6, e11, e18, e31, e33, hlt, tx, hng]
        refine callG_c (by simp) (by simp) ?ha (q9) ?_
        (case ha => simp (disch := first | omega | (simp; done) | fail) [wrap64c, if_pos, if_neg, opAnd, opOr, opXor, opDiff, opShr, opBit, ntv, csv, ntw, csw, hbig, ntsv1, cssv1, ntu, csu, lnu, gs, ntu1, csu1, lnu1, ntu2, csu2, lnu2, c2, eB', eI, eS, eC, cn1, e1, e5, e6, e11, e18, e31, e33, hlt, tx, hng])
        try simp (disch := first | omega | (simp; done) | fail) [wrap64c, if_pos, if_neg, opAnd, opOr, opXor, opDiff, opShr, opBit, ntv, csv, ntw, csw, hbig, ntsv1, cssv1, ntu, csu, lnu, gs, ntu1, csu1, lnu1, ntu2, csu2, lnu2, c2, eB', eI, eS, eC, cn1, e1, e5, e6, e11, e18, e31, e33, hlt, tx, hng]
        refine loopK_next _ ?hm ?hf ⟨j + 1, rfl, rfl, (by simp (disch := first | omega | (simp; done) | fail) [wrap64c, if_pos, if_neg, opAnd, opOr, opXor, opDiff, opShr, opBit, ntv, csv, ntw, csw, hbig, ntsv1, cssv1, ntu, csu, lnu, gs, ntu1, csu1, lnu1, ntu2, csu2, lnu2, c2, eB', eI, eS, eC, cn1, e1, e5, e6, e11, e18, e31, e33, hlt, tx, hng] <;> omega), (by first | omega | assumption | (simp (disch := first | omega | (simp; done) | fail) [wrap64c, if_pos, if_neg, opAnd, opOr, opXor, opDiff, opShr, opBit, ntv, csv, ntw, csw, hbig, ntsv1, cssv1, ntu, csu, lnu, gs, ntu1, csu1, lnu1, ntu2, csu2, lnu2, c2, eB', eI, eS, eC, cn1, e1, e5, e6, e11, e18, e31, e33, hlt, tx, hng] <;> omega))⟩
        (case hm => first | omega | (simp; omega))
        (case hf => simp [FrameL, ntv, csv, ntw, csw, hbig, ntsv1, cssv1, ntu, csu, lnu, gs, ntu1, csu1, lnu1, ntu2, csu2, lnu2, c2, eB', eI, eS, eC, cn1, e1, e5, e6, e11, e18, e31, e33, hlt, tx, hng, f1_0, f5_0, f6_0, f11_0, f18_0, f31_0])
    · try simp (disch := first | omega | (simp; done) | fail) [wrap64c, if_pos, if_neg, opAnd, opOr, opXor, opDiff, opShr, opBit, ntv, csv, ntw, csw, hbig, ntsv1, cssv1, ntu, csu, lnu, gs, ntu1, csu1, lnu1, ntu2, csu2, lnu2, c2, eB', eI, eS, eC, cn1, e1, e5, e6, e11, e18, e31, e33, hlt]
      obtain ⟨g0, hg0⟩ : ∃ x, x = h4 := ⟨_, rfl⟩
      have K0 := K4
      rw [← hg0] at K0
      have hv := hv
      have hw := hw
      rw [← hg0] at hv
      rw [← hg0] at hw
      try rw [← hg0]
      obtain ⟨_, g1, p1, a1, s2, G, Y, z2, J, rk, R, rfl, hD, lY, hT, lJ, hR, lR⟩ := drawCostOfWord_ok g0 w ys (bytes_old hw)
      refine callG_c (by simp) (by simp) ?ha (p1) ?_
      (case ha => simp (disch := first | omega | (simp; done) | fail) [wrap64c, if_pos, if_neg, opAnd, opOr, opXor, opDiff, opShr, opBit, ntv, csv, ntw, csw, hbig, ntsv1, cssv1, ntu, csu, lnu, gs, ntu1, csu1, lnu1, ntu2, csu2, lnu2, c2, eB', eI, eS, eC, cn1, e1, e5, e6, e11, e18, e31, e33, hlt])
      have n1 := a1.1.1
      have K1 := K0.trans a1.1
      have hv := hv.keep a1.1
      have hw := hw.keep a1.1
      obtain ⟨sv2, rfl, hsv2⟩ := hD
      have hsv2 := hsv2.ints
      have ntsv2 := hsv2.nt
      have cssv2 := hsv2.cs
      have hD : Space g1 (.agg #[.int .i64 G, sv2]) G Y := .mk hsv2
      have hT := jobs_of hT (by omega)
      have ntz2 := hT.nt
      have csz2 := hT.cs
      have lnz2 := hT.lenD
      have ntrk := hR.nt
      have csrk := hR.cs
      have lnrk := hR.lenD
      try simp (disch := first | omega | (simp; done) | fail) [wrap64c, if_pos, if_neg, opAnd, opOr, opXor, opDiff, opShr, opBit, ntv, csv, ntw, csw, hbig, ntsv1, cssv1, ntu, csu, lnu, gs, ntu1, csu1, lnu1, ntu2, csu2, lnu2, c2, eB', eI, eS, eC, cn1, e1, e5, e6, e11, e18, e31, e33, hlt, ntsv2, cssv2, ntz2, csz2, lnz2, ntrk, csrk, lnrk, putCells]
      first | refine WY_heap fun g2 q_g2 => ?_ | refine callG_heap fun g2 q_g2 => ?_ | refine callP_heap fun g2 q_g2 => ?_ | refine callS_heap fun g2 q_g2 => ?_ | refine RY_heap fun g2 q_g2 => ?_ | refine PY_heap fun g2 q_g2 => ?_ | refine SY_heap fun g2 q_g2 => ?_ | refine doneY_heap fun g2 q_g2 => ?_ | refine loopK_heap fun g2 q_g2 => ?_ | refine thenY_heap fun g2 q_g2 => ?_ | refine thenM_heap fun g2 q_g2 => ?_
      have b2 : Adds g1 g2 := by rw [q_g2]; exact (by first | exact aK | exact kK)
      have n2 := b2.1.1
      have K2 := K1.trans b2.1
      have hv := hv.keep b2.1
      have hw := hw.keep b2.1
      have hD := hD.keep b2.1
      have hT := hT.keep b2.1
      have hR := hR.keep b2.1
      have m2 : g2.next = g1.next + 1 := by simp [q_g2]
      have gt : g2.get g1.next = .cells [.int .i64 G, sv2] true true 1 := by simp [q_g2]
      have lY' : Y.length < 2 ^ 40 := by omega
      refine callG_c (by simp) (by simp) ?ha (implCostW_ok g2 _ z2 rk G Y J R hD hT hR lY') ?_
      (case ha => simp (disch := first | omega | (simp; done) | fail) [wrap64c, if_pos, if_neg, opAnd, opOr, opXor, opDiff, opShr, opBit, ntv, csv, ntw, csw, hbig, ntsv1, cssv1, ntu, csu, lnu, gs, ntu1, csu1, lnu1, ntu2, csu2, lnu2, c2, eB', eI, eS, eC, cn1, e1, e5, e6, e11, e18, e31, e33, hlt, ntsv2, cssv2, ntz2, csz2, lnz2, ntrk, csrk, lnrk, gt])
      try simp (disch := first | omega | (simp; done) | fail) [wrap64c, if_pos, if_neg, opAnd, opOr, opXor, opDiff, opShr, opBit, ntv, csv, ntw, csw, hbig, ntsv1, cssv1, ntu, csu, lnu, gs, ntu1, csu1, lnu1, ntu2, csu2, lnu2, c2, eB', eI, eS, eC, cn1, e1, e5, e6, e11, e18, e31, e33, hlt, ntsv2, cssv2, ntz2, csz2, lnz2, ntrk, csrk, lnrk, gt]
      refine callG_c (by simp) (by simp) ?ha (specCostW_ok g2 _ z2 rk G Y J R hD hT hR lY') ?_
      (case ha => simp (disch := first | omega | (simp; done) | fail) [wrap64c, if_pos, if_neg, opAnd, opOr, opXor, opDiff, opShr, opBit, ntv, csv, ntw, csw, hbig, ntsv1, cssv1, ntu, csu, lnu, gs, ntu1, csu1, lnu1, ntu2, csu2, lnu2, c2, eB', eI, eS, eC, cn1, e1, e5, e6, e11, e18, e31, e33, hlt, ntsv2, cssv2, ntz2, csz2, lnz2, ntrk, csrk, lnrk, gt])
      try simp (disch := first | omega | (simp; done) | fail) [wrap64c, if_pos, if_neg, opAnd, opOr, opXor, opDiff, opShr, opBit, ntv, csv, ntw, csw, hbig, ntsv1, cssv1, ntu, csu, lnu, gs, ntu1, csu1, lnu1, ntu2, csu2, lnu2, c2, eB', eI, eS, eC, cn1, e1, e5, e6, e11, e18, e31, e33, hlt, ntsv2, cssv2, ntz2, csz2, lnz2, ntrk, csrk, lnrk, gt]
      cases d1 : (gvB G Y J && fullB G Y R)
      · try simp (disch := first | omega | (simp; done) | fail) [wrap64c, if_pos, if_neg, opAnd, opOr, opXor, opDiff, opShr, opBit, ntv, csv, ntw, csw, hbig, ntsv1, cssv1, ntu, csu, lnu, gs, ntu1, csu1, lnu1, ntu2, csu2, lnu2, c2, eB', eI, eS, eC, cn1, e1, e5, e6, e11, e18, e31, e33, hlt, ntsv2, cssv2, ntz2, csz2, lnz2, ntrk, csrk, lnrk, gt, d1]
        obtain ⟨f0, hf0⟩ : ∃ x, x = g2 := ⟨_, rfl⟩
        have K0 := K2
        rw [← hf0] at K0
        have hv := hv
        have hw := hw
        rw [← hf0] at hv
        rw [← hf0] at hw
        try rw [← hf0]
        obtain ⟨_, f1, p1, a1, s3, P, Z, z3, M, aa, ii, rfl, hE, lZ, hM, lM⟩ := drawCostAt_ok f0 w ys (bytes_old hw)
        refine callG_c (by simp) (by simp) ?ha (p1) ?_
        (case ha => simp (disch := first | omega | (simp; done) | fail) [wrap64c, if_pos, if_neg, opAnd, opOr, opXor, opDiff, opShr, opBit, ntv, csv, ntw, csw, hbig, ntsv1, cssv1, ntu, csu, lnu, gs, ntu1, csu1, lnu1, ntu2, csu2, lnu2, c2, eB', eI, eS, eC, cn1, e1, e5, e6, e11, e18, e31, e33, hlt, ntsv2, cssv2, ntz2, csz2, lnz2, ntrk, csrk, lnrk, gt, d1])
        have n1 := a1.1.1
        have K1 := K0.trans a1.1
        have hv := hv.keep a1.1
        have hw := hw.keep a1.1
        obtain ⟨sv3, rfl, hsv3⟩ := hE
        have hsv3 := hsv3.ints
        have ntsv3 := hsv3.nt
        have cssv3 := hsv3.cs
        have hE : Space f1 (.agg #[.int .i64 P, sv3]) P Z := .mk hsv3
        have hM := jobs_of hM (by omega)
        have ntz3 := hM.nt
        have csz3 := hM.cs
        have lnz3 := hM.lenD
        try simp (disch := first | omega | (simp; done) | fail) [wrap64c, if_pos, if_neg, opAnd, opOr, opXor, opDiff, opShr, opBit, ntv, csv, ntw, csw, hbig, ntsv1, cssv1, ntu, csu, lnu, gs, ntu1, csu1, lnu1, ntu2, csu2, lnu2, c2, eB', eI, eS, eC, cn1, e1, e5, e6, e11, e18, e31, e33, hlt, ntsv2, cssv2, ntz2, csz2, lnz2, ntrk, csrk, lnrk, gt, d1, ntsv3, cssv3, ntz3, csz3, lnz3, putCells]
        first | refine WY_heap fun f2 q_f2 => ?_ | refine callG_heap fun f2 q_f2 => ?_ | refine callP_heap fun f2 q_f2 => ?_ | refine callS_heap fun f2 q_f2 => ?_ | refine RY_heap fun f2 q_f2 => ?_ | refine PY_heap fun f2 q_f2 => ?_ | refine SY_heap fun f2 q_f2 => ?_ | refine doneY_heap fun f2 q_f2 => ?_ | refine loopK_heap fun f2 q_f2 => ?_ | refine thenY_heap fun f2 q_f2 => ?_ | refine thenM_heap fun f2 q_f2 => ?_
        have b2 : Adds f1 f2 := by rw [q_f2]; exact (by first | exact aK | exact kK)
        have n2 := b2.1.1
        have K2 := K1.trans b2.1
        have hv := hv.keep b2.1
        have hw := hw.keep b2.1
        have hE := hE.keep b2.1
        have hM := hM.keep b2.1
        have m2 : f2.next = f1.next + 1 := by simp [q_f2]
        have gu : f2.get f1.next = .cells [.int .i64 P, sv3] true true 1 := by simp [q_f2]
        have lZ' : Z.length < 2 ^ 40 := by omega
        refine callG_c (by simp) (by simp) ?ha (implAtC_ok f2 _ z3 P Z M aa ii hE hM lZ') ?_
        (case ha => simp (disch := first | omega | (simp; done) | fail) [wrap64c, if_pos, if_neg, opAnd, opOr, opXor, opDiff, opShr, opBit, ntv, csv, ntw, csw, hbig, ntsv1, cssv1, ntu, csu, lnu, gs, ntu1, csu1, lnu1, ntu2, csu2, lnu2, c2, eB', eI, eS, eC, cn1, e1, e5, e6, e11, e18, e31, e33, hlt, ntsv2, cssv2, ntz2, csz2, lnz2, ntrk, csrk, lnrk, gt, d1, ntsv3, cssv3, ntz3, csz3, lnz3, gu])
        try simp (disch := first | omega | (simp; done) | fail) [wrap64c, if_pos, if_neg, opAnd, opOr, opXor, opDiff, opShr, opBit, ntv, csv, ntw, csw, hbig, ntsv1, cssv1, ntu, csu, lnu, gs, ntu1, csu1, lnu1, ntu2, csu2, lnu2, c2, eB', eI, eS, eC, cn1, e1, e5, e6, e11, e18, e31, e33, hlt, ntsv2, cssv2, ntz2, csz2, lnz2, ntrk, csrk, lnrk, gt, d1, ntsv3, cssv3, ntz3, csz3, lnz3, gu]
        refine callG_c (by simp) (by simp) ?ha (specAtC_ok f2 _ z3 P Z M aa ii hE hM lZ') ?_
        (case ha => simp (disch := first | omega | (simp; done) | fail) [wrap64c, if_pos, if_neg, opAnd, opOr, opXor, opDiff, opShr, opBit, ntv, csv, ntw, csw, hbig, ntsv1, cssv1, ntu, csu, lnu, gs, ntu1, csu1, lnu1, ntu2, csu2, lnu2, c2, eB', eI, eS, eC, cn1, e1, e5, e6, e11, e18, e31, e33, hlt, ntsv2, cssv2, ntz2, csz2, lnz2, ntrk, csrk, lnrk, gt, d1, ntsv3, cssv3, ntz3, csz3, lnz3, gu])
        try simp (disch := first | omega | (simp; done) | fail) [wrap64c, if_pos, if_neg, opAnd, opOr, opXor, opDiff, opShr, opBit, ntv, csv, ntw, csw, hbig, ntsv1, cssv1, ntu, csu, lnu, gs, ntu1, csu1, lnu1, ntu2, csu2, lnu2, c2, eB', eI, eS, eC, cn1, e1, e5, e6, e11, e18, e31, e33, hlt, ntsv2, cssv2, ntz2, csz2, lnz2, ntrk, csrk, lnrk, gt, d1, ntsv3, cssv3, ntz3, csz3, lnz3, gu]
        exact done_ret rfl (by simp [K2])
      · have d2 := d1
        rw [Bool.and_eq_true] at d2
        obtain ⟨d3, d4⟩ := d2
        obtain ⟨m2, ys2, eG, eY, gd2, gj2, hL2⟩ := gvB_true d3
        subst eG eY
        have d5 := best_le gd2 gj2 hL2 d4
        have ec1 : costR (m2 : Int) (toN ys2) J R = topN (costN J) (natsOf R) := by rw [costR, if_pos d1]
        have q1 := bestCost_ok g2 _ z2 (m2 : Int) (toN ys2) J hD hT lY'
        have d6 : (spB (m2 : Int) (toN ys2) && jobsB J (m2 : Int)) = true := d3
        rw [d6, show bestC (m2 : Int) (toN ys2) J = topN (costN J) (greedN (costN J) ys2 m2) by rw [bestC, if_pos d6, natsOf_toN]; rfl] at q1
        have d7 : ¬ topN (costN J) (natsOf R) < topN (costN J) (greedN (costN J) ys2 m2) := by omega
        try simp (disch := first | omega | (simp; done) | fail) [wrap64c, if_pos, if_neg, opAnd, opOr, opXor, opDiff, opShr, opBit, ntv, csv, ntw, csw, hbig, ntsv1, cssv1, ntu, csu, lnu, gs, ntu1, csu1, lnu1, ntu2, csu2, lnu2, c2, eB', eI, eS, eC, cn1, e1, e5, e6, e11, e18, e31, e33, hlt, ntsv2, cssv2, ntz2, csz2, lnz2, ntrk, csrk, lnrk, gt, d1, ec1, d7]
        refine callG_c (by simp) (by simp) ?ha (q1) ?_
        (case ha => simp (disch := first | omega | (simp; done) | fail) [wrap64c, if_pos, if_neg, opAnd, opOr, opXor, opDiff, opShr, opBit, ntv, csv, ntw, csw, hbig, ntsv1, cssv1, ntu, csu, lnu, gs, ntu1, csu1, lnu1, ntu2, csu2, lnu2, c2, eB', eI, eS, eC, cn1, e1, e5, e6, e11, e18, e31, e33, hlt, ntsv2, cssv2, ntz2, csz2, lnz2, ntrk, csrk, lnrk, gt, d1, ec1, d7])
        try simp (disch := first | omega | (simp; done) | fail) [wrap64c, if_pos, if_neg, opAnd, opOr, opXor, opDiff, opShr, opBit, ntv, csv, ntw, csw, hbig, ntsv1, cssv1, ntu, csu, lnu, gs, ntu1, csu1, lnu1, ntu2, csu2, lnu2, c2, eB', eI, eS, eC, cn1, e1, e5, e6, e11, e18, e31, e33, hlt, ntsv2, cssv2, ntz2, csz2, lnz2, ntrk, csrk, lnrk, gt, d1, ec1, d7]
        obtain ⟨f0, hf0⟩ : ∃ x, x = g2 := ⟨_, rfl⟩
        have K0 := K2
        rw [← hf0] at K0
        have hv := hv
        have hw := hw
        rw [← hf0] at hv
        rw [← hf0] at hw
        try rw [← hf0]
        obtain ⟨_, f1, p1, a1, s3, P, Z, z3, M, aa, ii, rfl, hE, lZ, hM, lM⟩ := drawCostAt_ok f0 w ys (bytes_old hw)
        refine callG_c (by simp) (by simp) ?ha (p1) ?_
        (case ha => simp (disch := first | omega | (simp; done) | fail) [wrap64c, if_pos, if_neg, opAnd, opOr, opXor, opDiff, opShr, opBit, ntv, csv, ntw, csw, hbig, ntsv1, cssv1, ntu, csu, lnu, gs, ntu1, csu1, lnu1, ntu2, csu2, lnu2, c2, eB', eI, eS, eC, cn1, e1, e5, e6, e11, e18, e31, e33, hlt, ntsv2, cssv2, ntz2, csz2, lnz2, ntrk, csrk, lnrk, gt, d1, ec1, d7])
        have n1 := a1.1.1
        have K1 := K0.trans a1.1
        have hv := hv.keep a1.1
        have hw := hw.keep a1.1
        obtain ⟨sv3, rfl, hsv3⟩ := hE
        have hsv3 := hsv3.ints
        have ntsv3 := hsv3.nt
        have cssv3 := hsv3.cs
        have hE : Space f1 (.agg #[.int .i64 P, sv3]) P Z := .mk hsv3
        have hM := jobs_of hM (by omega)
        have ntz3 := hM.nt
        have csz3 := hM.cs
        have lnz3 := hM.lenD
        try simp (disch := first | omega | (simp; done) | fail) [wrap64c, if_pos, if_neg, opAnd, opOr, opXor, opDiff, opShr, opBit, ntv, csv, ntw, csw, hbig, ntsv1, cssv1, ntu, csu, lnu, gs, ntu1, csu1, lnu1, ntu2, csu2, lnu2, c2, eB', eI, eS, eC, cn1, e1, e5, e6, e11, e18, e31, e33, hlt, ntsv2, cssv2, ntz2, csz2, lnz2, ntrk, csrk, lnrk, gt, d1, ec1, d7, ntsv3, cssv3, ntz3, csz3, lnz3, putCells]
        first | refine WY_heap fun f2 q_f2 => ?_ | refine callG_heap fun f2 q_f2 => ?_ | refine callP_heap fun f2 q_f2 => ?_ | refine callS_heap fun f2 q_f2 => ?_ | refine RY_heap fun f2 q_f2 => ?_ | refine PY_heap fun f2 q_f2 => ?_ | refine SY_heap fun f2 q_f2 => ?_ | refine doneY_heap fun f2 q_f2 => ?_ | refine loopK_heap fun f2 q_f2 => ?_ | refine thenY_heap fun f2 q_f2 => ?_ | refine thenM_heap fun f2 q_f2 => ?_
        have b2 : Adds f1 f2 := by rw [q_f2]; exact (by first | exact aK | exact kK)
        have n2 := b2.1.1
        have K2 := K1.trans b2.1
        have hv := hv.keep b2.1
        have hw := hw.keep b2.1
        have hE := hE.keep b2.1
        have hM := hM.keep b2.1
        have m2 : f2.next = f1.next + 1 := by simp [q_f2]
        have gu : f2.get f1.next = .cells [.int .i64 P, sv3] true true 1 := by simp [q_f2]
        have lZ' : Z.length < 2 ^ 40 := by omega
        refine callG_c (by simp) (by simp) ?ha (implAtC_ok f2 _ z3 P Z M aa ii hE hM lZ') ?_
        (case ha => simp (disch := first | omega | (simp; done) | fail) [wrap64c, if_pos, if_neg, opAnd, opOr, opXor, opDiff, opShr, opBit, ntv, csv, ntw, csw, hbig, ntsv1, cssv1, ntu, csu, lnu, gs, ntu1, csu1, lnu1, ntu2, csu2, lnu2, c2, eB', eI, eS, eC, cn1, e1, e5, e6, e11, e18, e31, e33, hlt, ntsv2, cssv2, ntz2, csz2, lnz2, ntrk, csrk, lnrk, gt, d1, ec1, d7, ntsv3, cssv3, ntz3, csz3, lnz3, gu])
        try simp (disch := first | omega | (simp; done) | fail) [wrap64c, if_pos, if_neg, opAnd, opOr, opXor, opDiff, opShr, opBit, ntv, csv, ntw, csw, hbig, ntsv1, cssv1, ntu, csu, lnu, gs, ntu1, csu1, lnu1, ntu2, csu2, lnu2, c2, eB', eI, eS, eC, cn1, e1, e5, e6, e11, e18, e31, e33, hlt, ntsv2, cssv2, ntz2, csz2, lnz2, ntrk, csrk, lnrk, gt, d1, ec1, d7, ntsv3, cssv3, ntz3, csz3, lnz3, gu]
        refine callG_c (by simp) (by simp) ?ha (specAtC_ok f2 _ z3 P Z M aa ii hE hM lZ') ?_
        (case ha => simp (disch := first | omega | (simp; done) | fail) [wrap64c, if_pos, if_neg, opAnd, opOr, opXor, opDiff, opShr, opBit, ntv, csv, ntw, csw, hbig, ntsv1, cssv1, ntu, csu, lnu, gs, ntu1, csu1, lnu1, ntu2, csu2, lnu2, c2, eB', eI, eS, eC, cn1, e1, e5, e6, e11, e18, e31, e33, hlt, ntsv2, cssv2, ntz2, csz2, lnz2, ntrk, csrk, lnrk, gt, d1, ec1, d7, ntsv3, cssv3, ntz3, csz3, lnz3, gu])
        try simp (disch := first | omega | (simp; done) | fail) [wrap64c, if_pos, if_neg, opAnd, opOr, opXor, opDiff, opShr, opBit, ntv, csv, ntw, csw, hbig, ntsv1, cssv1, ntu, csu, lnu, gs, ntu1, csu1, lnu1, ntu2, csu2, lnu2, c2, eB', eI, eS, eC, cn1, e1, e5, e6, e11, e18, e31, e33, hlt, ntsv2, cssv2, ntz2, csz2, lnz2, ntrk, csrk, lnrk, gt, d1, ec1, d7, ntsv3, cssv3, ntz3, csz3, lnz3, gu]
        exact done_ret rfl (by simp [K2])
end Go.Proofs.Ytnncipcldbopgaa
namespace Go.Proofs.Ytnncipcldbopgaa
set_option linter.unusedSimpArgs false
set_option linter.unusedVariables false
open Go Go.Eng Go.ChangeShapes Go.WideShapes Go.ChangeAt Go.RowKit Go.Joins
set_option maxRecDepth 100000 in
theorem greedyIsBest_lifted (os : Os) (started : os.Started) (H : Type) (enc : TypeId × Value → H) :
    ReturnsInHanded {} Try.checked os 9 .any (Rows.fnGreedyIsBestSpec.pre6 enc Try.prog Try.f9 Rows.fnGreedyIsBestRow.domain false) (Rows.fnGreedyIsBestSpec.post enc Try.prog Try.f9 false true false false) := by
  refine returnsInHanded_of_change (C := Try.checked) own started (by kernel_rfl) Try.func9
    (ChangeSpec.witness6 (enc := enc) (C := Try.checked) false ⟨#[], #[.slice none 0 0, .slice none 0 0], []⟩ 8 (by kernel_rfl) (by kernel_rfl) (by kernel_rfl) (by kernel_rfl)) ?_
  intro W base args ds gs before hval0 hW hcnd _
  have hval : ∀ (j : Nat) t v, Try.f9.params[j]? = some t → args[j]? = some v → Value.okWide Try.prog W .any base t v := hval0
  have hW' := hW
  obtain ⟨p, q, hA0, hV, rfl, hfz, hnd⟩ := hW
  have hA : DataW.TrodAll enc Try.prog W 0 (fun _ => true) true Try.f9.params.toList args.toList ds p := hA0
  rw [Try.params9] at hA hval
  obtain ⟨v0, v1, d0, d1, p0, p1, rfl, rfl, rfl, h0, h1⟩ := trodAll_two hA
  obtain ⟨rfl, rfl⟩ := trodVars_none hV
  simp only [List.append_nil] at hW'
  have lt0 : ∀ x ∈ p0, x.block < W.heap.size := by obtain ⟨m, hm⟩ := h0; exact DataW.trod_lt m _ _ _ hm
  have lt1 : ∀ x ∈ p1, x.block < W.heap.size := by obtain ⟨m, hm⟩ := h1; exact DataW.trod_lt m _ _ _ hm
  obtain ⟨E0, hh0, a0, X0, st0, m0, hva0, hc0⟩ := lay_bytes (hval 0 22 v0 rfl rfl) h0 (start0 W)
  obtain ⟨E1, hh1, a1, X1, st1, m1, hva1, hc1⟩ := lay_bytes (hval 1 22 v1 rfl rfl) h1 st0
  replace hva0 := m1.vrel _ _ hva0
  replace hc0 := hc0.keep m1.keep
  refine (law_calls (args := #[a0, a1]) (args' := #[v0, v1]) st1 rfl (fun i hi => ?_) (lawGreedyIsBest_ok hh1 a0 X0 hc0 a1 X1 hc1) rfl).mono fun e W' ⟨he, bel⟩ => ?_
  · have : i = 0 ∨ i = 1 := by simp at hi; omega
    rcases this with rfl | rfl
    · exact hva0
    · exact hva1
  · subst he
    exact ⟨_, rfl, _, _, _, [], _, [], hW', trodAll_mk1 (shut_bool Try.underlying4 _), trodAll_mk2 (Below.trod laidOut (by kernel_rfl) (of_decide_eq_true (by kernel_rfl)) h0 bel lt0) (Below.trod laidOut (by kernel_rfl) (of_decide_eq_true (by kernel_rfl)) h1 bel lt1), rfl, bel.frame _, fun h => by cases h⟩
theorem greedyIsBest_holds : Rows.FnGreedyIsBestSaid :=
  OpenClaim.holds_of_wide 9 Try.f9 rfl rfl rfl rfl rfl rfl rfl ⟨rfl, rfl, rfl, rfl, rfl⟩ rfl rfl rfl rfl rfl (by kernel_rfl) Try.func9 (by kernel_rfl)
    (of_decide_eq_true (by kernel_rfl)) (by unfold Func.isWrapper; first | (rw [if_pos (by decide +kernel)]; kernel_rfl) | (rw [if_neg (by decide +kernel)]; exact ⟨rfl, rfl⟩))
    (fun os started H enc _ => greedyIsBest_lifted os started H enc)
end Go.Proofs.Ytnncipcldbopgaa
