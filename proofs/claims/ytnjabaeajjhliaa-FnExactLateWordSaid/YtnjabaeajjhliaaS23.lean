/- CriticalItem: what both sides hand back. -/
import Derived.Test.YtnjabaeajjhliaaS22
namespace Go.Proofs.Ytnjabaeajjhliaa
set_option linter.unusedSimpArgs false
set_option linter.unusedVariables false
set_option maxHeartbeats 4000000
open Go Go.Eng
attribute [local irreducible] WD RunD PreD Runs CallOK

theorem jobsB_ok {L : List Job} {N : Int} (h : jobsB L N = true) : (L.length : Int) = N ∧ JobsOK L := by
  obtain ⟨h1, h2, h3⟩ := jobsB_true h
  obtain ⟨n, rfl, a, b⟩ := sizeB_true h1
  exact ⟨h2, by omega, h3⟩

theorem grTasks_ok (h : Hp) (v : Value) (L : List Job) (N : Int) (hv : Jobs h v L) : CallOK Try.prog 134 #[v, .int .i64 N] h (.bool (jobsB L N)) h := by
  refine callY_P 39 _ [.tmp 4] Try.func134 rfl rfl rfl (by first | rfl | simp) ?_
  have hL := hv.lenD
  obtain ⟨s, c, hform, hlc, hcc⟩ := hv.form
  try simp (disch := first | omega | (simp; done) | fail) [wrap64c, if_pos, if_neg, opAnd, opOr, opXor, opDiff, opShr, opBit, hL]
  refine callG_c (by simp) (by simp) ?ha (spItems_ok h N) ?_
  (case ha => simp (disch := first | omega | (simp; done) | fail) [wrap64c, if_pos, if_neg, opAnd, opOr, opXor, opDiff, opShr, opBit, hL])
  cases c1 : sizeB N
  · have e : jobsB L N = false := jobsB_no fun h1 _ _ => by rw [c1] at h1; cases h1
    try simp (disch := first | omega | (simp; done) | fail) [wrap64c, if_pos, if_neg, opAnd, opOr, opXor, opDiff, opShr, opBit, hL, c1]
    exact done_ret rfl (by simp [e])
  · by_cases c2 : (L.length : Int) = N
    · have d2 : ((L.length : Int) != N) = false := by simp [c2]
      try simp (disch := first | omega | (simp; done) | fail) [wrap64c, if_pos, if_neg, opAnd, opOr, opXor, opDiff, opShr, opBit, hL, c1, d2]
      refine WD_loopC [16, 17] (fun m tm h' => ∃ j, m = L.length - j ∧ tm 18 = .int .i64 (j : Int) ∧ (j ≤ L.length) ∧ (Keeps h h') ∧ (∀ k, k < j → jobOK (jobAt L k) = true)) _ ⟨0, rfl, (by simp (disch := first | omega | (simp; done) | fail) [wrap64c, if_pos, if_neg, opAnd, opOr, opXor, opDiff, opShr, opBit, hL, c1]), (by first | omega | assumption | (simp (disch := first | omega | (simp; done) | fail) [wrap64c, if_pos, if_neg, opAnd, opOr, opXor, opDiff, opShr, opBit, hL, c1] <;> omega)), (Keeps.refl _), (by intro k hk; omega)⟩ ?_
      rintro m tm h' hFr ⟨j, rfl, e18, hj, ha, hx⟩
      simp only [FrameL] at hFr
      obtain ⟨f16_0, f17_0, -⟩ := hFr
      try simp (disch := first | omega | (simp; done) | fail) [wrap64c, if_pos, if_neg, opAnd, opOr, opXor, opDiff, opShr, opBit, hL, c1] at f16_0 f17_0
      have e16 := f16_0
      have e17 := f17_0
      have ha1 := ha.1
      by_cases hlt : j < L.length
      · have hv1 := hv.keep ha
        obtain ⟨o_x, i_x, c_x, cs_x, own_x, ex_x, es_x, q_x, b_x, g_x, l_x, r_x, s_x, t_x, u_x, ra_x, rb_x, rc_x⟩ := hv1.open ((by omega))
        try simp (disch := first | omega | (simp; done) | fail) [wrap64c, if_pos, if_neg, opAnd, opOr, opXor, opDiff, opShr, opBit, hL, c1, e16, e17, e18, hlt, q_x, g_x, l_x, r_x, s_x, t_x, u_x, ra_x, rb_x, rc_x, jobL, putCells]
        first | refine WY_heap fun h2 q_h2 => ?_ | refine callG_heap fun h2 q_h2 => ?_ | refine callP_heap fun h2 q_h2 => ?_ | refine RY_heap fun h2 q_h2 => ?_ | refine PY_heap fun h2 q_h2 => ?_ | refine doneY_heap fun h2 q_h2 => ?_ | refine loopK_heap fun h2 q_h2 => ?_ | refine thenY_heap fun h2 q_h2 => ?_ | refine thenM_heap fun h2 q_h2 => ?_
        have k2 : Keeps h h2 := by rw [q_h2]; exact (by first | exact aK | exact kK)
        have g2 : h2.get h'.next = .cells [.int .i64 (jobAt L j).ti, .int .i64 (jobAt L j).ra, .int .i64 (jobAt L j).ba] true true 1 := by simp [q_h2, putCells]
        refine callG_c (by simp) (by simp) ?ha (l1In_ok h2 (jobAt L j).ti 1 9) ?_
        (case ha => simp (disch := first | omega | (simp; done) | fail) [wrap64c, if_pos, if_neg, opAnd, opOr, opXor, opDiff, opShr, opBit, hL, c1, e16, e17, e18, hlt, q_x, g_x, l_x, r_x, s_x, t_x, u_x, ra_x, rb_x, rc_x, g2])
        by_cases d1 : 1 ≤ (jobAt L j).ti ∧ (jobAt L j).ti ≤ 9
        · have e1 := decide_eq_true d1
          try simp (disch := first | omega | (simp; done) | fail) [wrap64c, if_pos, if_neg, opAnd, opOr, opXor, opDiff, opShr, opBit, hL, c1, e16, e17, e18, hlt, q_x, g_x, l_x, r_x, s_x, t_x, u_x, ra_x, rb_x, rc_x, g2, e1]
          refine callG_c (by simp) (by simp) ?ha (l1In_ok h2 (jobAt L j).ra 0 9) ?_
          (case ha => simp (disch := first | omega | (simp; done) | fail) [wrap64c, if_pos, if_neg, opAnd, opOr, opXor, opDiff, opShr, opBit, hL, c1, e16, e17, e18, hlt, q_x, g_x, l_x, r_x, s_x, t_x, u_x, ra_x, rb_x, rc_x, g2, e1])
          by_cases d2 : 0 ≤ (jobAt L j).ra ∧ (jobAt L j).ra ≤ 9
          · have e2 := decide_eq_true d2
            try simp (disch := first | omega | (simp; done) | fail) [wrap64c, if_pos, if_neg, opAnd, opOr, opXor, opDiff, opShr, opBit, hL, c1, e16, e17, e18, hlt, q_x, g_x, l_x, r_x, s_x, t_x, u_x, ra_x, rb_x, rc_x, g2, e1, e2]
            refine callG_c (by simp) (by simp) ?ha (l1In_ok h2 (jobAt L j).ba (-100) 100) ?_
            (case ha => simp (disch := first | omega | (simp; done) | fail) [wrap64c, if_pos, if_neg, opAnd, opOr, opXor, opDiff, opShr, opBit, hL, c1, e16, e17, e18, hlt, q_x, g_x, l_x, r_x, s_x, t_x, u_x, ra_x, rb_x, rc_x, g2, e1, e2])
            by_cases d3 : -100 ≤ (jobAt L j).ba ∧ (jobAt L j).ba ≤ 100
            · have e3 := decide_eq_true d3
              have hok : jobOK (jobAt L j) = true := decide_eq_true ⟨d1, d2, d3⟩
              try simp (disch := first | omega | (simp; done) | fail) [wrap64c, if_pos, if_neg, opAnd, opOr, opXor, opDiff, opShr, opBit, hL, c1, e16, e17, e18, hlt, q_x, g_x, l_x, r_x, s_x, t_x, u_x, ra_x, rb_x, rc_x, g2, e1, e2, e3]
              refine loopK_next _ ?hm ?hf ⟨j + 1, rfl, (by simp (disch := first | omega | (simp; done) | fail) [wrap64c, if_pos, if_neg, opAnd, opOr, opXor, opDiff, opShr, opBit, hL, c1, e16, e17, e18, hlt, q_x, g_x, l_x, r_x, s_x, t_x, u_x, ra_x, rb_x, rc_x, g2] <;> omega), (by first | omega | assumption | (simp (disch := first | omega | (simp; done) | fail) [wrap64c, if_pos, if_neg, opAnd, opOr, opXor, opDiff, opShr, opBit, hL, c1, e16, e17, e18, hlt, q_x, g_x, l_x, r_x, s_x, t_x, u_x, ra_x, rb_x, rc_x, g2] <;> omega)), k2, ?c_hx⟩
              (case hm => first | omega | (simp; omega))
              (case hf => simp [FrameL, hL, c1, e16, e17, e18, hlt, q_x, g_x, l_x, r_x, s_x, t_x, u_x, ra_x, rb_x, rc_x, g2, f16_0, f17_0])
              case c_hx =>
                exact (fun k hk => by
                  by_cases e : k = j
                  · subst e; exact hok
                  · exact hx k (by omega))
            · have e3 := decide_eq_false d3
              have hok : jobsB L N = false := jobsB_no fun _ _ h3 => d3 (jobOK_true (h3 j hlt)).2.2
              try simp (disch := first | omega | (simp; done) | fail) [wrap64c, if_pos, if_neg, opAnd, opOr, opXor, opDiff, opShr, opBit, hL, c1, e16, e17, e18, hlt, q_x, g_x, l_x, r_x, s_x, t_x, u_x, ra_x, rb_x, rc_x, g2, e1, e2, e3]
              exact done_ret rfl (by simp [hok, k2])
          · have e2 := decide_eq_false d2
            have hok : jobsB L N = false := jobsB_no fun _ _ h3 => d2 (jobOK_true (h3 j hlt)).2.1
            try simp (disch := first | omega | (simp; done) | fail) [wrap64c, if_pos, if_neg, opAnd, opOr, opXor, opDiff, opShr, opBit, hL, c1, e16, e17, e18, hlt, q_x, g_x, l_x, r_x, s_x, t_x, u_x, ra_x, rb_x, rc_x, g2, e1, e2]
            exact done_ret rfl (by simp [hok, k2])
        · have e1 := decide_eq_false d1
          have hok : jobsB L N = false := jobsB_no fun _ _ h3 => d1 (jobOK_true (h3 j hlt)).1
          try simp (disch := first | omega | (simp; done) | fail) [wrap64c, if_pos, if_neg, opAnd, opOr, opXor, opDiff, opShr, opBit, hL, c1, e16, e17, e18, hlt, q_x, g_x, l_x, r_x, s_x, t_x, u_x, ra_x, rb_x, rc_x, g2, e1]
          exact done_ret rfl (by simp [hok, k2])
      · try simp (disch := first | omega | (simp; done) | fail) [wrap64c, if_pos, if_neg, opAnd, opOr, opXor, opDiff, opShr, opBit, hL, c1, e16, e17, e18, hlt]
        have e : jobsB L N = true := jobsB_of c1 c2 fun k hk => hx k (by omega)
        exact done_ret rfl (by simp [e, ha])
    · have d2 : ((L.length : Int) != N) = true := by simp [c2]
      have e : jobsB L N = false := jobsB_no fun _ h1 _ => c2 h1
      try simp (disch := first | omega | (simp; done) | fail) [wrap64c, if_pos, if_neg, opAnd, opOr, opXor, opDiff, opShr, opBit, hL, c1, d2]
      exact done_ret rfl (by simp [e])

theorem grGiven_ok (h : Hp) (v w : Value) (N : Int) (X : List Int) (L : List Job) (hv : Space h v N X) (hw : Jobs h w L) (hl : X.length < 2 ^ 40) : CallOK Try.prog 84 #[v, w] h (.bool (spB N X && jobsB L N)) h := by
  refine callY_P 13 _ [.tmp 4] Try.func84 rfl rfl rfl (by first | rfl | simp) ?_
  obtain ⟨b, rfl, hX⟩ := hv
  obtain ⟨s, c, hform, hlc, hcc⟩ := hw.form
  refine WD_first ?_
  try simp (disch := first | omega | (simp; done) | fail) [wrap64c, if_pos, if_neg, opAnd, opOr, opXor, opDiff, opShr, opBit]
  refine stopK_heap fun h0 q_h0 => ?_
  refine stopK_go ?_
  have g_h0 : h0.get h.next = .cells [.int .i64 N, b] true true 1 := by simp [q_h0]
  have k_h0 : Adds h h0 := by rw [q_h0]; exact (by first | exact aK | exact kK)
  have n_h0 : h.next < h0.next := by simp [q_h0]; try omega
  have hX0 := hX.keep k_h0.1
  have hw0 := hw.keep k_h0.1
  have K0 := k_h0.1
  try simp (disch := first | omega | (simp; done) | fail) [wrap64c, if_pos, if_neg, opAnd, opOr, opXor, opDiff, opShr, opBit, g_h0]
  refine callG_c (by simp) (by simp) ?ha (spGood_ok h0 (.agg #[.int .i64 N, b]) N X (.mk hX0) hl) ?_
  (case ha => simp (disch := first | omega | (simp; done) | fail) [wrap64c, if_pos, if_neg, opAnd, opOr, opXor, opDiff, opShr, opBit, g_h0])
  cases c1 : spB N X
  · try simp (disch := first | omega | (simp; done) | fail) [wrap64c, if_pos, if_neg, opAnd, opOr, opXor, opDiff, opShr, opBit, g_h0, c1]
    exact done_ret rfl (by simp [c1, K0])
  · try simp (disch := first | omega | (simp; done) | fail) [wrap64c, if_pos, if_neg, opAnd, opOr, opXor, opDiff, opShr, opBit, g_h0, c1]
    refine callG_c (by simp) (by simp) ?ha (grTasks_ok h0 w L N hw0) ?_
    (case ha => simp (disch := first | omega | (simp; done) | fail) [wrap64c, if_pos, if_neg, opAnd, opOr, opXor, opDiff, opShr, opBit, g_h0, c1])
    try simp (disch := first | omega | (simp; done) | fail) [wrap64c, if_pos, if_neg, opAnd, opOr, opXor, opDiff, opShr, opBit, g_h0, c1]
    exact done_ret rfl (by simp [c1, K0])
theorem together_ok (h : Hp) (v w : Value) (N : Int) (X : List Int) (L : List Job) (hv : Space h v N X) (hw : Jobs h w L) (hl : X.length < 2 ^ 40) : CallOK Try.prog 139 #[v, w] h (.bool (spB N X && jobsB L N)) h := by
  refine callY_P 13 _ [.tmp 4] Try.func139 rfl rfl rfl (by first | rfl | simp) ?_
  obtain ⟨b, rfl, hX⟩ := hv
  obtain ⟨s, c, hform, hlc, hcc⟩ := hw.form
  refine WD_first ?_
  try simp (disch := first | omega | (simp; done) | fail) [wrap64c, if_pos, if_neg, opAnd, opOr, opXor, opDiff, opShr, opBit]
  refine stopK_heap fun h0 q_h0 => ?_
  refine stopK_go ?_
  have g_h0 : h0.get h.next = .cells [.int .i64 N, b] true true 1 := by simp [q_h0]
  have k_h0 : Adds h h0 := by rw [q_h0]; exact (by first | exact aK | exact kK)
  have n_h0 : h.next < h0.next := by simp [q_h0]; try omega
  have hX0 := hX.keep k_h0.1
  have hw0 := hw.keep k_h0.1
  have K0 := k_h0.1
  try simp (disch := first | omega | (simp; done) | fail) [wrap64c, if_pos, if_neg, opAnd, opOr, opXor, opDiff, opShr, opBit, g_h0]
  refine callG_c (by simp) (by simp) ?ha (isSpace_ok h0 (.agg #[.int .i64 N, b]) N X (.mk hX0) hl) ?_
  (case ha => simp (disch := first | omega | (simp; done) | fail) [wrap64c, if_pos, if_neg, opAnd, opOr, opXor, opDiff, opShr, opBit, g_h0])
  cases c1 : spB N X
  · try simp (disch := first | omega | (simp; done) | fail) [wrap64c, if_pos, if_neg, opAnd, opOr, opXor, opDiff, opShr, opBit, g_h0, c1]
    exact done_ret rfl (by simp [c1, K0])
  · try simp (disch := first | omega | (simp; done) | fail) [wrap64c, if_pos, if_neg, opAnd, opOr, opXor, opDiff, opShr, opBit, g_h0, c1]
    refine callG_c (by simp) (by simp) ?ha (areTasks_ok h0 w L N hw0) ?_
    (case ha => simp (disch := first | omega | (simp; done) | fail) [wrap64c, if_pos, if_neg, opAnd, opOr, opXor, opDiff, opShr, opBit, g_h0, c1])
    try simp (disch := first | omega | (simp; done) | fail) [wrap64c, if_pos, if_neg, opAnd, opOr, opXor, opDiff, opShr, opBit, g_h0, c1]
    exact done_ret rfl (by simp [c1, K0])

theorem bestClo_ok (h : Hp) (o : Nat) (v : Value) (L : List Job) (s i : Nat) (hg : h.get o = .cells [v] true true 1) (hv : Jobs h v L) (g : JobsOK L) (hs : s < 128) (hi : i < L.length) :
    CallOK Try.prog 153 #[.int .i64 (s : Int), .int .i64 (i : Int), .pointer (some ⟨o, 0, none⟩)] h (.int .i64 (costN L s i)) h := by
  refine callY_P 10 _ [.tmp 5] Try.func153 rfl rfl rfl (by first | rfl | simp) ?_
  have hg1 := hg
  try simp (disch := first | omega | (simp; done) | fail) [wrap64c, if_pos, if_neg, opAnd, opOr, opXor, opDiff, opShr, opBit, hg1]
  refine callG_c (by simp) (by simp) ?ha (cost_ok h v L s i hv g hs hi) ?_
  (case ha => simp (disch := first | omega | (simp; done) | fail) [wrap64c, if_pos, if_neg, opAnd, opOr, opXor, opDiff, opShr, opBit, hg1])
  try simp (disch := first | omega | (simp; done) | fail) [wrap64c, if_pos, if_neg, opAnd, opOr, opXor, opDiff, opShr, opBit, hg1]
  exact done_ret rfl (by simp)

theorem best_ok (h : Hp) (v w : Value) (n : Nat) (xs : List Nat) (L : List Job) (hv : Space h v n (toN xs)) (hw : Jobs h w L) (g : SpGood n xs) (gj : JobsOK L) (hn : L.length = n) :
    ∃ v' h', CallOK Try.prog 100 #[v, w] h v' h' ∧ Adds h h' ∧ IntsO (Btw h.next h'.next) h' v' (toN (greedN (costN L) xs n)) := by
  refine callY_L (args := [v, w]) 8 _ [.tmp 4] Try.func100 rfl rfl rfl ?_
  obtain ⟨b, rfl, hX⟩ := hv
  have ntw := hw.nt
  have csw := hw.cs
  refine WD_first ?_
  try simp (disch := first | omega | (simp; done) | fail) [wrap64c, if_pos, if_neg, opAnd, opOr, opXor, opDiff, opShr, opBit, ntw, csw]
  refine stopK_heap fun h0 q_h0 => ?_
  refine stopK_go ?_
  have k0 : Adds h h0 := by rw [q_h0]; exact (by first | exact aK | exact kK)
  have n0 : h0.next = h.next + 2 := by simp [q_h0]
  have g0 : h0.get h.next = .cells [.int .i64 n, b] true true 1 := by simp [q_h0]
  have g1 : h0.get (h.next + 1) = .cells [w] true true 1 := by simp [q_h0]
  try simp (disch := first | omega | (simp; done) | fail) [wrap64c, if_pos, if_neg, opAnd, opOr, opXor, opDiff, opShr, opBit, ntw, csw, g0, g1]
  obtain ⟨u, h1, hc1, ha1, hi1⟩ := greedy_ok h0 (.agg #[.int .i64 n, b]) n xs (costN L) 153 #[] #[.pointer (some ⟨h.next + 1, 0, none⟩)] (.mk (hX.keep k0.1)) g (by simp) (fun h' s i hk hs hi => by
    refine bestClo_ok h' (h.next + 1) w L s i ?_ ((hw.keep k0.1).keep hk) gj hs (by omega)
    rw [hk.2 _ (by omega)]; exact g1)
  refine callG_c (by simp) (by simp) ?ha (hc1) ?_
  (case ha => simp (disch := first | omega | (simp; done) | fail) [wrap64c, if_pos, if_neg, opAnd, opOr, opXor, opDiff, opShr, opBit, ntw, csw, g0, g1])
  try simp (disch := first | omega | (simp; done) | fail) [wrap64c, if_pos, if_neg, opAnd, opOr, opXor, opDiff, opShr, opBit, ntw, csw, g0, g1]
  exact done_ret rfl ⟨k0.trans ha1, hi1.sub fun o ho => ⟨by have := ho.1; omega, ho.2⟩⟩

/-! The greatest cost of a word, and where it stands. -/
def setW : List Nat → Nat → Nat
  | [], s => s
  | i :: l, s => setW l (nOr s (bit i))
theorem setW_snoc (a : Nat) : ∀ (l : List Nat) (s : Nat), setW (l ++ [a]) s = nOr (setW l s) (bit a)
  | [], s => rfl
  | i :: l, s => by simp only [List.cons_append, setW, setW_snoc a l]
theorem setW_lt : ∀ (l : List Nat) (s : Nat), s < 128 → (∀ i ∈ l, i < 7) → setW l s < 128
  | [], s, h, _ => h
  | i :: l, s, h, hl => by
    rw [setW]
    have h1 := bit_lt7 (hl i (by simp))
    exact setW_lt l _ (nOr128 h (by omega)) fun j hj => hl j (by simp [hj])
def topW (c : Nat → Nat → Int) : List Nat → Nat → Int → Int
  | [], _, m => m
  | i :: l, s, m => topW c l (nOr s (bit i)) (if m < c s i then c s i else m)
theorem topW_snoc (c : Nat → Nat → Int) (a : Nat) : ∀ (l : List Nat) (s : Nat) (m : Int), topW c (l ++ [a]) s m = if topW c l s m < c (setW l s) a then c (setW l s) a else topW c l s m
  | [], s, m => rfl
  | i :: l, s, m => by rw [List.cons_append, topW, topW_snoc c a l, topW, setW]
/-- The cost at a place of a word. -/
def costW (c : Nat → Nat → Int) (W : List Nat) (j : Nat) : Int := c (setW (W.take j) 0) (W.getD j 0)
def topN (c : Nat → Nat → Int) (W : List Nat) : Int := topW c W 0 (-10000)
theorem topW_take (c : Nat → Nat → Int) {W : List Nat} {j : Nat} (hj : j < W.length) : topW c (W.take (j + 1)) 0 (-10000) = if topW c (W.take j) 0 (-10000) < costW c W j then costW c W j else topW c (W.take j) 0 (-10000) := by
  rw [List.take_succ_eq_append_getElem hj, topW_snoc]
  simp [costW, hj]
theorem setW_take {W : List Nat} {j : Nat} (hj : j < W.length) : setW (W.take (j + 1)) 0 = nOr (setW (W.take j) 0) (bit (W.getD j 0)) := by
  rw [List.take_succ_eq_append_getElem hj, setW_snoc]
  simp [hj]
theorem topW_hit (c : Nat → Nat → Int) (W : List Nat) (hc : ∀ j, j < W.length → -10000 < costW c W j) : ∀ j, j ≤ W.length → 0 < j → ∃ i, i < j ∧ costW c W i = topW c (W.take j) 0 (-10000)
  | 0, _, h => by omega
  | j + 1, h, _ => by
    rw [topW_take c (by omega)]
    by_cases hlt : topW c (W.take j) 0 (-10000) < costW c W j
    · rw [if_pos hlt]; exact ⟨j, by omega, rfl⟩
    · rw [if_neg hlt]
      by_cases h0 : j = 0
      · subst h0
        exact absurd (hc 0 (by omega)) (by simpa [topW] using hlt)
      · obtain ⟨i, hi, e⟩ := topW_hit c W hc j (by omega) (by omega)
        exact ⟨i, by omega, e⟩
def critJ (c : Nat → Nat → Int) (W : List Nat) : Nat := (List.range W.length).findIdx fun j => costW c W j == topN c W
theorem critJ_ok (c : Nat → Nat → Int) (W : List Nat) (hc : ∀ j, j < W.length → -10000 < costW c W j) (h0 : 0 < W.length) : critJ c W < W.length ∧ costW c W (critJ c W) = topN c W ∧ ∀ i, i < critJ c W → costW c W i ≠ topN c W := by
  obtain ⟨i, hi, e⟩ := topW_hit c W hc W.length (Nat.le_refl _) h0
  rw [List.take_length] at e
  have hlt : critJ c W < (List.range W.length).length := List.findIdx_lt_length_of_exists ⟨i, by simpa using hi, by simpa [topN] using e⟩
  have h1 : (fun j => costW c W j == topN c W) ((List.range W.length)[critJ c W]'hlt) = true := List.findIdx_getElem (w := hlt)
  rw [List.getElem_range] at h1
  refine ⟨by simpa using hlt, by simpa using h1, fun k hk => ?_⟩
  have h2 := List.not_of_lt_findIdx hk
  simpa using h2
theorem greed_lt {n : Nat} {xs : List Nat} (g : SpGood n xs) (c : Nat → Nat → Int) : ∀ k, k ≤ n → ∀ i ∈ (greedS c (fam xs) n k).1, i < n
  | 0, _, i, h => by simp [greedS] at h
  | k + 1, hk, i, h => by
    rw [greedS] at h
    rcases List.mem_append.1 h with h | h
    · exact greed_lt g c k (by omega) i h
    · have := (nextG_mem c (greed_ne g c (show k < n by omega))).2
      have h2 := (g.learn this).1
      simp at h
      omega

theorem costOf_ok (h : Hp) (v w : Value) (L : List Job) (W : List Nat) (hv : Jobs h v L) (hw : Ints h w (toN W)) (g : JobsOK L) (hW : ∀ i ∈ W, i < L.length) (hl : W.length ≤ 7) (h0 : 0 < W.length) :
    CallOK Try.prog 92 #[v, w] h (.int .i64 (topN (costN L) W)) h := by
  refine callY_P 35 _ [.tmp 4] Try.func92 rfl rfl rfl (by first | rfl | simp) ?_
  have hL := hw.lenD
  have hgt := toN_get W
  have hln := toN_length W
  have n7 := g.n7
  try simp (disch := first | omega | (simp; done) | fail) [wrap64c, if_pos, if_neg, opAnd, opOr, opXor, opDiff, opShr, opBit, hL, hgt]
  refine WD_loopC [0, 10, 11] (fun m tm h' => ∃ j, m = W.length - j ∧ h = h' ∧ tm 5 = .int .i64 (if j = 0 then 0 else topW (costN L) (W.take j) 0 (-10000)) ∧ tm 6 = .int .i64 ((setW (W.take j) 0 : Nat) : Int) ∧ tm 12 = .int .i64 (j : Int) ∧ (j ≤ W.length)) _ ⟨0, rfl, rfl, (by simp), (by simp [setW]), (by simp (disch := first | omega | (simp; done) | fail) [wrap64c, if_pos, if_neg, opAnd, opOr, opXor, opDiff, opShr, opBit, hL, hgt]), (by first | omega | assumption | (simp (disch := first | omega | (simp; done) | fail) [wrap64c, if_pos, if_neg, opAnd, opOr, opXor, opDiff, opShr, opBit, hL, hgt] <;> omega))⟩ ?_
  rintro m tm h' hFr ⟨j, rfl, rfl, e5, e6, e12, hj⟩
  simp only [FrameL] at hFr
  obtain ⟨f0_0, f10_0, f11_0, -⟩ := hFr
  try simp (disch := first | omega | (simp; done) | fail) [wrap64c, if_pos, if_neg, opAnd, opOr, opXor, opDiff, opShr, opBit, hL, hgt] at f0_0 f10_0 f11_0
  have e0 := f0_0
  have e10 := f10_0
  have e11 := f11_0
  by_cases hlt : j < W.length
  · have hi := hW _ (List.getElem_mem hlt)
    have hss := setW_lt (W.take j) 0 (by omega) (fun i hi => by have := hW i (List.mem_of_mem_take hi); omega)
    have hp64 := bit_lt7 (i := W[j]) (by omega)
    have hor := nOr128 (b := bit W[j]) hss (by omega)
    have hcl := costN_le g (setW (W.take j) 0) hi
    have hs1 : setW (W.take (j + 1)) 0 = nOr (setW (W.take j) 0) (bit W[j]) := by rw [setW_take hlt]; simp [hlt]
    have ht1 : topW (costN L) (W.take (j + 1)) 0 (-10000) = if topW (costN L) (W.take j) 0 (-10000) < costN L (setW (W.take j) 0) W[j] then costN L (setW (W.take j) 0) W[j] else topW (costN L) (W.take j) 0 (-10000) := by rw [topW_take _ hlt]; simp [costW, hlt]
    obtain ⟨o_x, i_x, c_x, cs_x, own_x, ex_x, es_x, q_x, b_x, g_x, l_x, r_x⟩ := hw.open ((by omega))
    have z_x : ∀ h2 : i_x < cs_x.length, cs_x[i_x] = _ := fun h2 => r_x 0 ((by omega)) h2
    try simp (disch := first | omega | (simp; done) | fail) [wrap64c, if_pos, if_neg, opAnd, opOr, opXor, opDiff, opShr, opBit, hL, hgt, e0, e5, e6, e10, e11, e12, hlt, q_x, g_x, l_x, r_x, z_x]
    refine callG_c (by simp) (by simp) ?ha (cost_ok h v L (setW (W.take j) 0) W[j] hv g hss hi) ?_
    (case ha => simp (disch := first | omega | (simp; done) | fail) [wrap64c, if_pos, if_neg, opAnd, opOr, opXor, opDiff, opShr, opBit, hL, hgt, e0, e5, e6, e10, e11, e12, hlt, q_x, g_x, l_x, r_x, z_x])
    by_cases hj0 : j = 0
    · have hb : ((j : Int) == 0) = true := by simp [hj0]
      have e0 : topW (costN L) (W.take j) 0 (-10000) = -10000 := by rw [hj0]; rfl
      rw [e0, if_pos (by omega)] at ht1
      try simp (disch := first | omega | (simp; done) | fail) [wrap64c, if_pos, if_neg, opAnd, opOr, opXor, opDiff, opShr, opBit, hL, hgt, e0, e5, e6, e10, e11, e12, hlt, q_x, g_x, l_x, r_x, z_x, hb]
      refine loopK_next _ ?hm ?hf ⟨j + 1, rfl, rfl, (by simp [ht1]), (by simp [hs1]), (by simp (disch := first | omega | (simp; done) | fail) [wrap64c, if_pos, if_neg, opAnd, opOr, opXor, opDiff, opShr, opBit, hL, hgt, e0, e5, e6, e10, e11, e12, hlt, q_x, g_x, l_x, r_x, z_x] <;> omega), (by first | omega | assumption | (simp (disch := first | omega | (simp; done) | fail) [wrap64c, if_pos, if_neg, opAnd, opOr, opXor, opDiff, opShr, opBit, hL, hgt, e0, e5, e6, e10, e11, e12, hlt, q_x, g_x, l_x, r_x, z_x] <;> omega))⟩
      (case hm => first | omega | (simp; omega))
      (case hf => simp [FrameL, hL, hgt, e0, e5, e6, e10, e11, e12, hlt, q_x, g_x, l_x, r_x, z_x, f0_0, f10_0, f11_0])
    · have hb : ((j : Int) == 0) = false := by simp [hj0]
      have hq : (if j = 0 then (0 : Int) else topW (costN L) (W.take j) 0 (-10000)) = topW (costN L) (W.take j) 0 (-10000) := if_neg hj0
      rw [hq] at e5
      by_cases hgt2 : topW (costN L) (W.take j) 0 (-10000) < costN L (setW (W.take j) 0) W[j]
      · rw [if_pos hgt2] at ht1
        try simp (disch := first | omega | (simp; done) | fail) [wrap64c, if_pos, if_neg, opAnd, opOr, opXor, opDiff, opShr, opBit, hL, hgt, e0, e5, e6, e10, e11, e12, hlt, q_x, g_x, l_x, r_x, z_x, hb, hgt2]
        refine loopK_next _ ?hm ?hf ⟨j + 1, rfl, rfl, (by simp [ht1]), (by simp [hs1]), (by simp (disch := first | omega | (simp; done) | fail) [wrap64c, if_pos, if_neg, opAnd, opOr, opXor, opDiff, opShr, opBit, hL, hgt, e0, e5, e6, e10, e11, e12, hlt, q_x, g_x, l_x, r_x, z_x] <;> omega), (by first | omega | assumption | (simp (disch := first | omega | (simp; done) | fail) [wrap64c, if_pos, if_neg, opAnd, opOr, opXor, opDiff, opShr, opBit, hL, hgt, e0, e5, e6, e10, e11, e12, hlt, q_x, g_x, l_x, r_x, z_x] <;> omega))⟩
        (case hm => first | omega | (simp; omega))
        (case hf => simp [FrameL, hL, hgt, e0, e5, e6, e10, e11, e12, hlt, q_x, g_x, l_x, r_x, z_x, f0_0, f10_0, f11_0])
      · rw [if_neg hgt2] at ht1
        try simp (disch := first | omega | (simp; done) | fail) [wrap64c, if_pos, if_neg, opAnd, opOr, opXor, opDiff, opShr, opBit, hL, hgt, e0, e5, e6, e10, e11, e12, hlt, q_x, g_x, l_x, r_x, z_x, hb, hgt2]
        refine loopK_next _ ?hm ?hf ⟨j + 1, rfl, rfl, (by simp [ht1, e5]), (by simp [hs1]), (by simp (disch := first | omega | (simp; done) | fail) [wrap64c, if_pos, if_neg, opAnd, opOr, opXor, opDiff, opShr, opBit, hL, hgt, e0, e5, e6, e10, e11, e12, hlt, q_x, g_x, l_x, r_x, z_x] <;> omega), (by first | omega | assumption | (simp (disch := first | omega | (simp; done) | fail) [wrap64c, if_pos, if_neg, opAnd, opOr, opXor, opDiff, opShr, opBit, hL, hgt, e0, e5, e6, e10, e11, e12, hlt, q_x, g_x, l_x, r_x, z_x] <;> omega))⟩
        (case hm => first | omega | (simp; omega))
        (case hf => simp [FrameL, hL, hgt, e0, e5, e6, e10, e11, e12, hlt, q_x, g_x, l_x, r_x, z_x, f0_0, f10_0, f11_0])
  · have e : j = W.length := by omega
    have hj0 : ¬ j = 0 := by omega
    rw [if_neg hj0, List.take_of_length_le (by omega)] at e5
    try simp (disch := first | omega | (simp; done) | fail) [wrap64c, if_pos, if_neg, opAnd, opOr, opXor, opDiff, opShr, opBit, hL, hgt, e0, e5, e6, e10, e11, e12, hlt]
    exact done_ret rfl (by simp [topN])

theorem most2_ok (h : Hp) (a b : Int) : CallOK Try.prog 137 #[.int .i64 a, .int .i64 b] h (.int .i64 (if b < a then a else b)) h := by
  refine callY_P 10 _ [.tmp 4] Try.func137 rfl rfl rfl (by first | rfl | simp) ?_
  by_cases hc : b < a
  · try simp (disch := first | omega | (simp; done) | fail) [wrap64c, if_pos, if_neg, opAnd, opOr, opXor, opDiff, opShr, opBit, hc]
    exact done_ret rfl (by simp [hc])
  · try simp (disch := first | omega | (simp; done) | fail) [wrap64c, if_pos, if_neg, opAnd, opOr, opXor, opDiff, opShr, opBit, hc]
    exact done_ret rfl (by simp [hc])
theorem grOf_ok (h : Hp) (v w : Value) (L : List Job) (W : List Nat) (hv : Jobs h v L) (hw : Ints h w (toN W)) (g : JobsOK L) (hW : ∀ i ∈ W, i < L.length) (hl : W.length ≤ 7) :
    CallOK Try.prog 86 #[v, w] h (.int .i64 (topN (costN L) W)) h := by
  refine callY_P 27 _ [.tmp 4] Try.func86 rfl rfl rfl (by first | rfl | simp) ?_
  have hL := hw.lenD
  have hgt := toN_get W
  have hln := toN_length W
  have n7 := g.n7
  try simp (disch := first | omega | (simp; done) | fail) [wrap64c, if_pos, if_neg, opAnd, opOr, opXor, opDiff, opShr, opBit, hL, hgt]
  refine WD_loopC [0, 9, 10] (fun m tm h' => ∃ j, m = W.length - j ∧ h = h' ∧ tm 5 = .int .i64 ((setW (W.take j) 0 : Nat) : Int) ∧ tm 6 = .int .i64 (topW (costN L) (W.take j) 0 (-10000)) ∧ tm 11 = .int .i64 (j : Int) ∧ (j ≤ W.length)) _ ⟨0, rfl, rfl, (by simp [setW]), (by simp [topW]), (by simp (disch := first | omega | (simp; done) | fail) [wrap64c, if_pos, if_neg, opAnd, opOr, opXor, opDiff, opShr, opBit, hL, hgt]), (by first | omega | assumption | (simp (disch := first | omega | (simp; done) | fail) [wrap64c, if_pos, if_neg, opAnd, opOr, opXor, opDiff, opShr, opBit, hL, hgt] <;> omega))⟩ ?_
  rintro m tm h' hFr ⟨j, rfl, rfl, e5, e6, e11, hj⟩
  simp only [FrameL] at hFr
  obtain ⟨f0_0, f9_0, f10_0, -⟩ := hFr
  try simp (disch := first | omega | (simp; done) | fail) [wrap64c, if_pos, if_neg, opAnd, opOr, opXor, opDiff, opShr, opBit, hL, hgt] at f0_0 f9_0 f10_0
  have e0 := f0_0
  have e9 := f9_0
  have e10 := f10_0
  by_cases hlt : j < W.length
  · have hi := hW _ (List.getElem_mem hlt)
    have hss := setW_lt (W.take j) 0 (by omega) (fun i hi => by have := hW i (List.mem_of_mem_take hi); omega)
    have hp64 := bit_lt7 (i := W[j]) (by omega)
    have hor := nOr128 (b := bit W[j]) hss (by omega)
    have hs1 : setW (W.take (j + 1)) 0 = nOr (setW (W.take j) 0) (bit W[j]) := by rw [setW_take hlt]; simp [hlt]
    have ht1 : topW (costN L) (W.take (j + 1)) 0 (-10000) = if topW (costN L) (W.take j) 0 (-10000) < costN L (setW (W.take j) 0) W[j] then costN L (setW (W.take j) 0) W[j] else topW (costN L) (W.take j) 0 (-10000) := by rw [topW_take _ hlt]; simp [costW, hlt]
    have hmo : (if costN L (setW (W.take j) 0) W[j] < topW (costN L) (W.take j) 0 (-10000) then topW (costN L) (W.take j) 0 (-10000) else costN L (setW (W.take j) 0) W[j]) = topW (costN L) (W.take (j + 1)) 0 (-10000) := by
      rw [ht1]
      split <;> split <;> omega
    have hmost := most2_ok h (topW (costN L) (W.take j) 0 (-10000)) (costN L (setW (W.take j) 0) W[j])
    rw [hmo] at hmost
    obtain ⟨o_x, i_x, c_x, cs_x, own_x, ex_x, es_x, q_x, b_x, g_x, l_x, r_x⟩ := hw.open ((by omega))
    have z_x : ∀ h2 : i_x < cs_x.length, cs_x[i_x] = _ := fun h2 => r_x 0 ((by omega)) h2
    try simp (disch := first | omega | (simp; done) | fail) [wrap64c, if_pos, if_neg, opAnd, opOr, opXor, opDiff, opShr, opBit, hL, hgt, e0, e5, e6, e9, e10, e11, hlt, q_x, g_x, l_x, r_x, z_x]
    refine callG_c (by simp) (by simp) ?ha (grCost_ok h v L (setW (W.take j) 0) W[j] hv g hss hi) ?_
    (case ha => simp (disch := first | omega | (simp; done) | fail) [wrap64c, if_pos, if_neg, opAnd, opOr, opXor, opDiff, opShr, opBit, hL, hgt, e0, e5, e6, e9, e10, e11, hlt, q_x, g_x, l_x, r_x, z_x])
    try simp (disch := first | omega | (simp; done) | fail) [wrap64c, if_pos, if_neg, opAnd, opOr, opXor, opDiff, opShr, opBit, hL, hgt, e0, e5, e6, e9, e10, e11, hlt, q_x, g_x, l_x, r_x, z_x]
    refine callG_c (by simp) (by simp) ?ha (hmost) ?_
    (case ha => simp (disch := first | omega | (simp; done) | fail) [wrap64c, if_pos, if_neg, opAnd, opOr, opXor, opDiff, opShr, opBit, hL, hgt, e0, e5, e6, e9, e10, e11, hlt, q_x, g_x, l_x, r_x, z_x])
    try simp (disch := first | omega | (simp; done) | fail) [wrap64c, if_pos, if_neg, opAnd, opOr, opXor, opDiff, opShr, opBit, hL, hgt, e0, e5, e6, e9, e10, e11, hlt, q_x, g_x, l_x, r_x, z_x]
    refine loopK_next _ ?hm ?hf ⟨j + 1, rfl, rfl, (by simp [hs1]), (by simp (disch := first | omega | (simp; done) | fail) [wrap64c, if_pos, if_neg, opAnd, opOr, opXor, opDiff, opShr, opBit, hL, hgt, e0, e5, e6, e9, e10, e11, hlt, q_x, g_x, l_x, r_x, z_x] <;> omega), (by simp (disch := first | omega | (simp; done) | fail) [wrap64c, if_pos, if_neg, opAnd, opOr, opXor, opDiff, opShr, opBit, hL, hgt, e0, e5, e6, e9, e10, e11, hlt, q_x, g_x, l_x, r_x, z_x] <;> omega), (by first | omega | assumption | (simp (disch := first | omega | (simp; done) | fail) [wrap64c, if_pos, if_neg, opAnd, opOr, opXor, opDiff, opShr, opBit, hL, hgt, e0, e5, e6, e9, e10, e11, hlt, q_x, g_x, l_x, r_x, z_x] <;> omega))⟩
    (case hm => first | omega | (simp; omega))
    (case hf => simp [FrameL, hL, hgt, e0, e5, e6, e9, e10, e11, hlt, q_x, g_x, l_x, r_x, z_x, f0_0, f9_0, f10_0])
  · have e : j = W.length := by omega
    rw [List.take_of_length_le (by omega)] at e6
    try simp (disch := first | omega | (simp; done) | fail) [wrap64c, if_pos, if_neg, opAnd, opOr, opXor, opDiff, opShr, opBit, hL, hgt, e0, e5, e6, e9, e10, e11, hlt]
    exact done_ret rfl (by simp [topN])
end Go.Proofs.Ytnjabaeajjhliaa
