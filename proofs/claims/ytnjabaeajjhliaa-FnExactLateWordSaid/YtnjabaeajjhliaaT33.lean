/- Late jobs, by the program. -/
import Derived.Test.YtnjabaeajjhliaaT32
namespace Go.Proofs.Ytnjabaeajjhliaa
set_option linter.unusedSimpArgs false
set_option linter.unusedVariables false
set_option maxHeartbeats 4000000
open Go Go.Eng
attribute [local irreducible] WD RunD PreD Runs CallOK

theorem lateB_no {N : Int} {L : List (List Int)} {T D : List Int} (h : givenB N L T D = false) : lateB N L T D = false := by rw [lateB, h]; rfl
theorem lateR_no {N : Int} {L : List (List Int)} {T D : List Int} (h : lateB N L T D = false) : lateR N L T D = [] := by unfold lateR; rw [if_neg (by rw [h]; simp)]
theorem implLate_ok (h : Hp) (v w u : Value) (L : List (List Int)) (N : Int) (T D : List Int) (hv : IRows h v L) (hw : Ints h w T) (hu : Ints h u D) :
    ∃ v' h', CallOK Try.prog 48 #[.int .i64 N, v, w, u] h v' h' ∧ Adds h h' ∧ ∃ r, v' = .tuple #[r, .bool (lateB N L T D)] ∧ IntsO (Btw h.next h'.next) h' r (lateR N L T D) := by
  have hnt := hv.nt
  have hcs := hv.cs
  have ntw := hw.nt
  have csw := hw.cs
  have ntu := hu.nt
  have csu := hu.cs
  have lL := hv.lenD
  have lT := hw.lenD
  have lD := hu.lenD
  have hLl := hv.len
  cases c1 : sizeB N
  · have hk : givenB N L T D = false := by simp [givenB, c1]
    refine callY_L (args := [.int .i64 N, v, w, u]) 104 _ [.tmp 8, .tmp 9] Try.func48 rfl rfl rfl ?_
    try simp (disch := first | omega | (simp; done) | fail) [wrap64c, if_pos, if_neg, opAnd, opOr, opXor, opDiff, opShr, opBit, hnt, hcs, ntw, csw, ntu, csu, lL, lT, lD, c1]
    refine callG_c (by simp) (by simp) ?ha (isSize_ok _ N) ?_
    (case ha => simp (disch := first | omega | (simp; done) | fail) [wrap64c, if_pos, if_neg, opAnd, opOr, opXor, opDiff, opShr, opBit, hnt, hcs, ntw, csw, ntu, csu, lL, lT, lD, c1])
    try simp (disch := first | omega | (simp; done) | fail) [wrap64c, if_pos, if_neg, opAnd, opOr, opXor, opDiff, opShr, opBit, hnt, hcs, ntw, csw, ntu, csu, lL, lT, lD, c1]
    exact done_ret rfl ⟨(by first | exact aK | exact kK), _, by rw [lateB_no hk]; rfl, by rw [lateR_no (lateB_no hk)]; exact .nil _ _⟩
  obtain ⟨n, rfl, n1, n7⟩ := sizeB_true c1
  cases c2 : pairsB n L
  · have hk : givenB n L T D = false := by simp [givenB, c1, c2]
    refine callY_L (args := [.int .i64 (n : Int), v, w, u]) 104 _ [.tmp 8, .tmp 9] Try.func48 rfl rfl rfl ?_
    try simp (disch := first | omega | (simp; done) | fail) [wrap64c, if_pos, if_neg, opAnd, opOr, opXor, opDiff, opShr, opBit, hnt, hcs, ntw, csw, ntu, csu, lL, lT, lD, c1, c2]
    refine callG_c (by simp) (by simp) ?ha (isSize_ok _ n) ?_
    (case ha => simp (disch := first | omega | (simp; done) | fail) [wrap64c, if_pos, if_neg, opAnd, opOr, opXor, opDiff, opShr, opBit, hnt, hcs, ntw, csw, ntu, csu, lL, lT, lD, c1, c2])
    try simp (disch := first | omega | (simp; done) | fail) [wrap64c, if_pos, if_neg, opAnd, opOr, opXor, opDiff, opShr, opBit, hnt, hcs, ntw, csw, ntu, csu, lL, lT, lD, c1, c2]
    refine callG_c (by simp) (by simp) ?ha (arePairs_ok h v L n (by omega) hv) ?_
    (case ha => simp (disch := first | omega | (simp; done) | fail) [wrap64c, if_pos, if_neg, opAnd, opOr, opXor, opDiff, opShr, opBit, hnt, hcs, ntw, csw, ntu, csu, lL, lT, lD, c1, c2])
    try simp (disch := first | omega | (simp; done) | fail) [wrap64c, if_pos, if_neg, opAnd, opOr, opXor, opDiff, opShr, opBit, hnt, hcs, ntw, csw, ntu, csu, lL, lT, lD, c1, c2]
    exact done_ret rfl ⟨(by first | exact aK | exact kK), _, by rw [lateB_no hk]; rfl, by rw [lateR_no (lateB_no hk)]; exact .nil _ _⟩
  by_cases c3 : T.length = n
  case neg =>
    have c3' : ((T.length : Int) != (n : Int)) = true := by simp [c3]
    have hk : givenB n L T D = false := by simp [givenB, c3]
    refine callY_L (args := [.int .i64 (n : Int), v, w, u]) 104 _ [.tmp 8, .tmp 9] Try.func48 rfl rfl rfl ?_
    try simp (disch := first | omega | (simp; done) | fail) [wrap64c, if_pos, if_neg, opAnd, opOr, opXor, opDiff, opShr, opBit, hnt, hcs, ntw, csw, ntu, csu, lL, lT, lD, c1, c2, c3']
    refine callG_c (by simp) (by simp) ?ha (isSize_ok _ n) ?_
    (case ha => simp (disch := first | omega | (simp; done) | fail) [wrap64c, if_pos, if_neg, opAnd, opOr, opXor, opDiff, opShr, opBit, hnt, hcs, ntw, csw, ntu, csu, lL, lT, lD, c1, c2, c3'])
    try simp (disch := first | omega | (simp; done) | fail) [wrap64c, if_pos, if_neg, opAnd, opOr, opXor, opDiff, opShr, opBit, hnt, hcs, ntw, csw, ntu, csu, lL, lT, lD, c1, c2, c3']
    refine callG_c (by simp) (by simp) ?ha (arePairs_ok h v L n (by omega) hv) ?_
    (case ha => simp (disch := first | omega | (simp; done) | fail) [wrap64c, if_pos, if_neg, opAnd, opOr, opXor, opDiff, opShr, opBit, hnt, hcs, ntw, csw, ntu, csu, lL, lT, lD, c1, c2, c3'])
    try simp (disch := first | omega | (simp; done) | fail) [wrap64c, if_pos, if_neg, opAnd, opOr, opXor, opDiff, opShr, opBit, hnt, hcs, ntw, csw, ntu, csu, lL, lT, lD, c1, c2, c3']
    exact done_ret rfl ⟨(by first | exact aK | exact kK), _, by rw [lateB_no hk]; rfl, by rw [lateR_no (lateB_no hk)]; exact .nil _ _⟩
  by_cases c4 : D.length = n
  case neg =>
    have c4' : ((D.length : Int) != (n : Int)) = true := by simp [c4]
    have hk : givenB n L T D = false := by simp [givenB, c4]
    refine callY_L (args := [.int .i64 (n : Int), v, w, u]) 104 _ [.tmp 8, .tmp 9] Try.func48 rfl rfl rfl ?_
    try simp (disch := first | omega | (simp; done) | fail) [wrap64c, if_pos, if_neg, opAnd, opOr, opXor, opDiff, opShr, opBit, hnt, hcs, ntw, csw, ntu, csu, lL, lT, lD, c1, c2, c4', c3]
    refine callG_c (by simp) (by simp) ?ha (isSize_ok _ n) ?_
    (case ha => simp (disch := first | omega | (simp; done) | fail) [wrap64c, if_pos, if_neg, opAnd, opOr, opXor, opDiff, opShr, opBit, hnt, hcs, ntw, csw, ntu, csu, lL, lT, lD, c1, c2, c4'])
    try simp (disch := first | omega | (simp; done) | fail) [wrap64c, if_pos, if_neg, opAnd, opOr, opXor, opDiff, opShr, opBit, hnt, hcs, ntw, csw, ntu, csu, lL, lT, lD, c1, c2, c4', c3]
    refine callG_c (by simp) (by simp) ?ha (arePairs_ok h v L n (by omega) hv) ?_
    (case ha => simp (disch := first | omega | (simp; done) | fail) [wrap64c, if_pos, if_neg, opAnd, opOr, opXor, opDiff, opShr, opBit, hnt, hcs, ntw, csw, ntu, csu, lL, lT, lD, c1, c2, c4'])
    try simp (disch := first | omega | (simp; done) | fail) [wrap64c, if_pos, if_neg, opAnd, opOr, opXor, opDiff, opShr, opBit, hnt, hcs, ntw, csw, ntu, csu, lL, lT, lD, c1, c2, c4', c3]
    exact done_ret rfl ⟨(by first | exact aK | exact kK), _, by rw [lateB_no hk]; rfl, by rw [lateR_no (lateB_no hk)]; exact .nil _ _⟩
  obtain ⟨hl40, hall⟩ := pairsB_all c2
  have hz : zarr #[Value.int .i64 0, Value.int .i64 0, Value.int .i64 0] 0 = #[] := by simp [zarr]
  have hz3 : zarr #[Value.int .i64 0, Value.int .i64 0, Value.int .i64 0] 3 = #[Value.int .i64 0, Value.int .i64 0, Value.int .i64 0] := zarr3_3 _ _ _
  refine callY_L (args := [.int .i64 (n : Int), v, w, u]) 104 _ [.tmp 8, .tmp 9] Try.func48 rfl rfl rfl ?_
  try simp (disch := first | omega | (simp; done) | fail) [wrap64c, if_pos, if_neg, opAnd, opOr, opXor, opDiff, opShr, opBit, hnt, hcs, ntw, csw, ntu, csu, lL, lT, lD, c1, c2, hz, hz3, c3, c4]
  refine callG_c (by simp) (by simp) ?ha (isSize_ok _ n) ?_
  (case ha => simp (disch := first | omega | (simp; done) | fail) [wrap64c, if_pos, if_neg, opAnd, opOr, opXor, opDiff, opShr, opBit, hnt, hcs, ntw, csw, ntu, csu, lL, lT, lD, c1, c2, hz, hz3])
  try simp (disch := first | omega | (simp; done) | fail) [wrap64c, if_pos, if_neg, opAnd, opOr, opXor, opDiff, opShr, opBit, hnt, hcs, ntw, csw, ntu, csu, lL, lT, lD, c1, c2, hz, hz3, c3, c4]
  refine callG_c (by simp) (by simp) ?ha (arePairs_ok h v L n (by omega) hv) ?_
  (case ha => simp (disch := first | omega | (simp; done) | fail) [wrap64c, if_pos, if_neg, opAnd, opOr, opXor, opDiff, opShr, opBit, hnt, hcs, ntw, csw, ntu, csu, lL, lT, lD, c1, c2, hz, hz3])
  try simp (disch := first | omega | (simp; done) | fail) [wrap64c, if_pos, if_neg, opAnd, opOr, opXor, opDiff, opShr, opBit, hnt, hcs, ntw, csw, ntu, csu, lL, lT, lD, c1, c2, hz, hz3, c3, c4]
  refine WD_loopC [0, 1, 2, 3, 40] (fun m tm h' => ∃ j q, m = n - j ∧ tm 10 = q ∧ tm 41 = .int .i64 (j : Int) ∧ (j ≤ n) ∧ (Adds h h') ∧ (GL 3 jobR h.next h' q (lateJ T D j)) ∧ (∀ i (hi : i < T.length) (hi2 : i < D.length), i < j → (1 ≤ T[i] ∧ T[i] ≤ 9) ∧ (0 ≤ D[i] ∧ D[i] ≤ 100))) _ ⟨0, _, rfl, (by simp (disch := first | omega | (simp; done) | fail) [wrap64c, if_pos, if_neg, opAnd, opOr, opXor, opDiff, opShr, opBit, hnt, hcs, ntw, csw, ntu, csu, lL, lT, lD, c1, c2, hz, hz3]), (by simp (disch := first | omega | (simp; done) | fail) [wrap64c, if_pos, if_neg, opAnd, opOr, opXor, opDiff, opShr, opBit, hnt, hcs, ntw, csw, ntu, csu, lL, lT, lD, c1, c2, hz, hz3]), (by first | omega | assumption | (simp (disch := first | omega | (simp; done) | fail) [wrap64c, if_pos, if_neg, opAnd, opOr, opXor, opDiff, opShr, opBit, hnt, hcs, ntw, csw, ntu, csu, lL, lT, lD, c1, c2, hz, hz3] <;> omega)), (by first | exact aK | exact kK), (.lit (ex := true) (Nat.le_refl _) (by simp) (by simp)), (fun i _ _ h0 => by omega)⟩ ?_
  rintro m tm h' hFr ⟨j, q, rfl, e10, e41, hj, ha, hg, hx⟩
  simp only [FrameL] at hFr
  obtain ⟨f0_0, f1_0, f2_0, f3_0, f40_0, -⟩ := hFr
  try simp (disch := first | omega | (simp; done) | fail) [wrap64c, if_pos, if_neg, opAnd, opOr, opXor, opDiff, opShr, opBit, hnt, hcs, ntw, csw, ntu, csu, lL, lT, lD, c1, c2, hz, hz3] at f0_0 f1_0 f2_0 f3_0 f40_0
  have e0 := f0_0
  have e1 := f1_0
  have e2 := f2_0
  have e3 := f3_0
  have e40 := f40_0
  rename Hp => hq
  by_cases hlt : j < n
  · obtain ⟨o_x, i_x, c_x, cs_x, own_x, ex_x, es_x, q_x, b_x, g_x, l_x, r_x⟩ := (hw.keep ha.1).open ((by omega))
    have z_x : ∀ h2 : i_x < cs_x.length, cs_x[i_x] = _ := fun h2 => r_x 0 ((by omega)) h2
    obtain ⟨o_y, i_y, c_y, cs_y, own_y, ex_y, es_y, q_y, b_y, g_y, l_y, r_y⟩ := (hu.keep ha.1).open ((by omega))
    have z_y : ∀ h2 : i_y < cs_y.length, cs_y[i_y] = _ := fun h2 => r_y 0 ((by omega)) h2
    have hjT : j < T.length := by omega
    have hjD : j < D.length := by omega
    try simp (disch := first | omega | (simp; done) | fail) [wrap64c, if_pos, if_neg, opAnd, opOr, opXor, opDiff, opShr, opBit, hnt, hcs, ntw, csw, ntu, csu, lL, lT, lD, c1, c2, hz, hz3, e0, e1, e2, e3, e10, e40, e41, hlt, q_x, g_x, l_x, r_x, z_x, q_y, g_y, l_y, r_y, z_y, hjT, hjD, c3, c4]
    have hc := within_ok hq T[j] 1 9
    have hd := within_ok hq D[j] 0 100
    by_cases d1 : 1 ≤ T[j] ∧ T[j] ≤ 9
    · rw [decide_eq_true d1] at hc
      refine callG_c (by simp) (by simp) ?ha (hc) ?_
      (case ha => simp (disch := first | omega | (simp; done) | fail) [wrap64c, if_pos, if_neg, opAnd, opOr, opXor, opDiff, opShr, opBit, hnt, hcs, ntw, csw, ntu, csu, lL, lT, lD, c1, c2, hz, hz3, e0, e1, e2, e3, e10, e40, e41, hlt, q_x, g_x, l_x, r_x, z_x, q_y, g_y, l_y, r_y, z_y, hjT, hjD, c3, c4])
      try simp (disch := first | omega | (simp; done) | fail) [wrap64c, if_pos, if_neg, opAnd, opOr, opXor, opDiff, opShr, opBit, hnt, hcs, ntw, csw, ntu, csu, lL, lT, lD, c1, c2, hz, hz3, e0, e1, e2, e3, e10, e40, e41, hlt, q_x, g_x, l_x, r_x, z_x, q_y, g_y, l_y, r_y, z_y, hjT, hjD, c3, c4]
      by_cases d2 : 0 ≤ D[j] ∧ D[j] ≤ 100
      · rw [decide_eq_true d2] at hd
        refine callG_c (by simp) (by simp) ?ha (hd) ?_
        (case ha => simp (disch := first | omega | (simp; done) | fail) [wrap64c, if_pos, if_neg, opAnd, opOr, opXor, opDiff, opShr, opBit, hnt, hcs, ntw, csw, ntu, csu, lL, lT, lD, c1, c2, hz, hz3, e0, e1, e2, e3, e10, e40, e41, hlt, q_x, g_x, l_x, r_x, z_x, q_y, g_y, l_y, r_y, z_y, hjT, hjD, c3, c4])
        try simp (disch := first | omega | (simp; done) | fail) [wrap64c, if_pos, if_neg, opAnd, opOr, opXor, opDiff, opShr, opBit, hnt, hcs, ntw, csw, ntu, csu, lL, lT, lD, c1, c2, hz, hz3, e0, e1, e2, e3, e10, e40, e41, hlt, q_x, g_x, l_x, r_x, z_x, q_y, g_y, l_y, r_y, z_y, hjT, hjD, c3, c4]
        refine WD_drawC 12 rfl (by kernel_rfl) ?_
        try simp (disch := first | omega | (simp; done) | fail) [wrap64c, if_pos, if_neg, opAnd, opOr, opXor, opDiff, opShr, opBit, hnt, hcs, ntw, csw, ntu, csu, lL, lT, lD, c1, c2, hz, hz3, e0, e1, e2, e3, e10, e40, e41, hlt, q_x, g_x, l_x, r_x, z_x, q_y, g_y, l_y, r_y, z_y, hjT, hjD, c3, c4]
        have ntq := hg.nt
        obtain ⟨q2, h2, hap, hg2, ha2, hn2, _⟩ := appJ hg (⟨T[j], 1, -D[j]⟩ : Job) (by simp; omega) ha.1.1 ha (Nat.le_refl _)
        try simp (disch := first | omega | (simp; done) | fail) [wrap64c, if_pos, if_neg, opAnd, opOr, opXor, opDiff, opShr, opBit, hnt, hcs, ntw, csw, ntu, csu, lL, lT, lD, c1, c2, hz, hz3, e0, e1, e2, e3, e10, e40, e41, hlt, q_x, g_x, l_x, r_x, z_x, q_y, g_y, l_y, r_y, z_y, hjT, hjD, ntq, hap, c3, c4]
        refine loopK_next _ ?hm ?hf ⟨j + 1, q2, rfl, (by simp (disch := first | omega | (simp; done) | fail) [wrap64c, if_pos, if_neg, opAnd, opOr, opXor, opDiff, opShr, opBit, hnt, hcs, ntw, csw, ntu, csu, lL, lT, lD, c1, c2, hz, hz3, e0, e1, e2, e3, e10, e40, e41, hlt, q_x, g_x, l_x, r_x, z_x, q_y, g_y, l_y, r_y, z_y, hjT, hjD, ntq] <;> omega), (by simp (disch := first | omega | (simp; done) | fail) [wrap64c, if_pos, if_neg, opAnd, opOr, opXor, opDiff, opShr, opBit, hnt, hcs, ntw, csw, ntu, csu, lL, lT, lD, c1, c2, hz, hz3, e0, e1, e2, e3, e10, e40, e41, hlt, q_x, g_x, l_x, r_x, z_x, q_y, g_y, l_y, r_y, z_y, hjT, hjD, ntq] <;> omega), (by first | omega | assumption | (simp (disch := first | omega | (simp; done) | fail) [wrap64c, if_pos, if_neg, opAnd, opOr, opXor, opDiff, opShr, opBit, hnt, hcs, ntw, csw, ntu, csu, lL, lT, lD, c1, c2, hz, hz3, e0, e1, e2, e3, e10, e40, e41, hlt, q_x, g_x, l_x, r_x, z_x, q_y, g_y, l_y, r_y, z_y, hjT, hjD, ntq] <;> omega)), ha2, (by rw [lateJ_succ]; simpa [List.getD_eq_getElem?_getD, hjT, hjD] using hg2), ?c_hx⟩
        (case hm => first | omega | (simp; omega))
        (case hf => simp [FrameL, hnt, hcs, ntw, csw, ntu, csu, lL, lT, lD, c1, c2, hz, hz3, e0, e1, e2, e3, e10, e40, e41, hlt, q_x, g_x, l_x, r_x, z_x, q_y, g_y, l_y, r_y, z_y, hjT, hjD, ntq, f0_0, f1_0, f2_0, f3_0, f40_0])
        case c_hx =>
          exact (fun i h1 h2 h3 => by
            by_cases e : i = j
            · subst e; exact ⟨d1, d2⟩
            · exact hx i h1 h2 (by omega))
      · rw [decide_eq_false d2] at hd
        refine callG_c (by simp) (by simp) ?ha (hd) ?_
        (case ha => simp (disch := first | omega | (simp; done) | fail) [wrap64c, if_pos, if_neg, opAnd, opOr, opXor, opDiff, opShr, opBit, hnt, hcs, ntw, csw, ntu, csu, lL, lT, lD, c1, c2, hz, hz3, e0, e1, e2, e3, e10, e40, e41, hlt, q_x, g_x, l_x, r_x, z_x, q_y, g_y, l_y, r_y, z_y, hjT, hjD, c3, c4])
        try simp (disch := first | omega | (simp; done) | fail) [wrap64c, if_pos, if_neg, opAnd, opOr, opXor, opDiff, opShr, opBit, hnt, hcs, ntw, csw, ntu, csu, lL, lT, lD, c1, c2, hz, hz3, e0, e1, e2, e3, e10, e40, e41, hlt, q_x, g_x, l_x, r_x, z_x, q_y, g_y, l_y, r_y, z_y, hjT, hjD, c3, c4]
        have hk : givenB n L T D = false := by
          have : decide (∀ x ∈ D, 0 ≤ x ∧ x ≤ 100) = false := decide_eq_false fun q => d2 (q _ (List.getElem_mem hjD))
          rw [givenB, this]; simp
        exact done_ret rfl ⟨(by first | exact aK | exact kK), _, by rw [lateB_no hk]; rfl, by rw [lateR_no (lateB_no hk)]; exact .nil _ _⟩
    · rw [decide_eq_false d1] at hc
      refine callG_c (by simp) (by simp) ?ha (hc) ?_
      (case ha => simp (disch := first | omega | (simp; done) | fail) [wrap64c, if_pos, if_neg, opAnd, opOr, opXor, opDiff, opShr, opBit, hnt, hcs, ntw, csw, ntu, csu, lL, lT, lD, c1, c2, hz, hz3, e0, e1, e2, e3, e10, e40, e41, hlt, q_x, g_x, l_x, r_x, z_x, q_y, g_y, l_y, r_y, z_y, hjT, hjD, c3, c4])
      try simp (disch := first | omega | (simp; done) | fail) [wrap64c, if_pos, if_neg, opAnd, opOr, opXor, opDiff, opShr, opBit, hnt, hcs, ntw, csw, ntu, csu, lL, lT, lD, c1, c2, hz, hz3, e0, e1, e2, e3, e10, e40, e41, hlt, q_x, g_x, l_x, r_x, z_x, q_y, g_y, l_y, r_y, z_y, hjT, hjD, c3, c4]
      have hk : givenB n L T D = false := by
        have : decide (∀ x ∈ T, 1 ≤ x ∧ x ≤ 9) = false := decide_eq_false fun q => d1 (q _ (List.getElem_mem hjT))
        rw [givenB, this]; simp
      exact done_ret rfl ⟨(by first | exact aK | exact kK), _, by rw [lateB_no hk]; rfl, by rw [lateR_no (lateB_no hk)]; exact .nil _ _⟩
  have hje : j = n := by omega
  subst hje
  have hT : ∀ x ∈ T, 1 ≤ x ∧ x ≤ 9 := fun x hx' => by
    obtain ⟨k, hk, rfl⟩ := List.getElem_of_mem hx'
    exact (hx k hk (by omega) (by omega)).1
  have hD : ∀ x ∈ D, 0 ≤ x ∧ x ≤ 100 := fun x hx' => by
    obtain ⟨k, hk, rfl⟩ := List.getElem_of_mem hx'
    exact (hx k (by omega) hk (by omega)).2
  have hgv : givenB j L T D = true := by
    simp only [givenB, c1, c2, c3, c4, Bool.true_and, decide_true, Bool.and_eq_true, decide_eq_true_eq]
    exact ⟨hT, hD⟩
  have gj := lateJ_ok n7 c3 c4 hT hD
  have hjobs := jobs_of hg (by simp; omega)
  try simp (disch := first | omega | (simp; done) | fail) [wrap64c, if_pos, if_neg, opAnd, opOr, opXor, opDiff, opShr, opBit, hnt, hcs, ntw, csw, ntu, csu, lL, lT, lD, c1, c2, hz, hz3, e0, e1, e2, e3, e10, e40, e41, hlt, c3, c4]
  refine WD_loopC [0, 10, 73, 74] (fun m tm h' => ∃ i t, m = L.length - i ∧ tm 12 = t ∧ tm 75 = .int .i64 (i : Int) ∧ (i ≤ L.length) ∧ (Adds hq h') ∧ (IRowsA hq.next h' t (turnR (L.take i)))) _ ⟨0, .slice (some ⟨hq.next, 0, none⟩) 0 0, rfl, (by simp (disch := first | omega | (simp; done) | fail) [wrap64c, if_pos, if_neg, opAnd, opOr, opXor, opDiff, opShr, opBit, hnt, hcs, ntw, csw, ntu, csu, lL, lT, lD, c1, c2, hz, hz3, e0, e1, e2, e3, e10, e40, e41, hlt]), (by simp (disch := first | omega | (simp; done) | fail) [wrap64c, if_pos, if_neg, opAnd, opOr, opXor, opDiff, opShr, opBit, hnt, hcs, ntw, csw, ntu, csu, lL, lT, lD, c1, c2, hz, hz3, e0, e1, e2, e3, e10, e40, e41, hlt]), (by first | omega | assumption | (simp (disch := first | omega | (simp; done) | fail) [wrap64c, if_pos, if_neg, opAnd, opOr, opXor, opDiff, opShr, opBit, hnt, hcs, ntw, csw, ntu, csu, lL, lT, lD, c1, c2, hz, hz3, e0, e1, e2, e3, e10, e40, e41, hlt] <;> omega)), (by first | exact aK | exact kK), (irowsA_lit (ex := true) (Nat.le_refl _) (by simp) (by simp))⟩ ?_
  rintro m tm h' hFr ⟨i, t, rfl, e12, e75, hi, ha2, hr⟩
  simp only [FrameL] at hFr
  obtain ⟨f0_1, f10_1, f73_1, f74_1, -⟩ := hFr
  try simp (disch := first | omega | (simp; done) | fail) [wrap64c, if_pos, if_neg, opAnd, opOr, opXor, opDiff, opShr, opBit, hnt, hcs, ntw, csw, ntu, csu, lL, lT, lD, c1, c2, hz, hz3, e0, e1, e2, e3, e10, e40, e41, hlt] at f0_1 f10_1 f73_1 f74_1
  have e0 := f0_1
  have e10 := f10_1
  have e73 := f73_1
  have e74 := f74_1
  rename Hp => hp
  have hv2 := (hv.keep ha.1).keep ha2.1
  have hm2 := ha2.1.1
  by_cases hlt2 : i < L.length
  · obtain ⟨c, d, hc, hd, hcd⟩ := pair_two (hall _ (List.getElem_mem hlt2))
    obtain ⟨o_x, i_x, c_x, cs_x, own_x, ex_x, es_x, us_x, q_x, b_x, g_x, l_x, r_x, R_x⟩ := hv2.open ((by omega))
    have z_x : ∀ h2 : i_x < cs_x.length, cs_x[i_x] = _ := fun h2 => r_x 0 ((by omega)) h2
    have hR := R_x i hlt2
    rw [hcd] at hR
    obtain ⟨o_y, i_y, c_y, cs_y, own_y, ex_y, es_y, q_y, b_y, g_y, l_y, r_y⟩ := hR.open ((by simp))
    have z_y : ∀ h2 : i_y < cs_y.length, cs_y[i_y] = _ := fun h2 => r_y 0 ((by simp)) h2
    have l2_y : i_y + 1 < cs_y.length := by have := l_y; simp at this; omega
    have l3_y : i_y < cs_y.length := by omega
    have z2_y := r_y 1 (by simp)
    have htl : (turnR (L.take i)).length ≤ i := by simp [turnR]; omega
    have hts := turnR_succ L hlt2
    simp only [hcd, List.getD_cons_zero, List.getD_cons_succ] at hts
    have htn := hr.nt
    try simp (disch := first | omega | (simp; done) | fail) [wrap64c, if_pos, if_neg, opAnd, opOr, opXor, opDiff, opShr, opBit, hnt, hcs, ntw, csw, ntu, csu, lL, lT, lD, c1, c2, hz, hz3, e0, e1, e2, e3, e10, e40, e41, hlt, e12, e73, e74, e75, hlt2, q_x, g_x, l_x, r_x, z_x, q_y, g_y, l_y, r_y, z_y, l2_y, l3_y, z2_y, htn, c3, c4]
    refine WD_drawC 9 rfl (by kernel_rfl) ?_
    try simp (disch := first | omega | (simp; done) | fail) [wrap64c, if_pos, if_neg, opAnd, opOr, opXor, opDiff, opShr, opBit, hnt, hcs, ntw, csw, ntu, csu, lL, lT, lD, c1, c2, hz, hz3, e0, e1, e2, e3, e10, e40, e41, hlt, e12, e73, e74, e75, hlt2, q_x, g_x, l_x, r_x, z_x, q_y, g_y, l_y, r_y, z_y, l2_y, l3_y, z2_y, htn, c3, c4]
    obtain ⟨t2, h3, hap, hr3, ha3, hn3, _⟩ := appP hr (d : Int) (c : Int) (by omega) (by omega) ha2 (Nat.le_refl _)
    try simp (disch := first | omega | (simp; done) | fail) [wrap64c, if_pos, if_neg, opAnd, opOr, opXor, opDiff, opShr, opBit, hnt, hcs, ntw, csw, ntu, csu, lL, lT, lD, c1, c2, hz, hz3, e0, e1, e2, e3, e10, e40, e41, hlt, e12, e73, e74, e75, hlt2, q_x, g_x, l_x, r_x, z_x, q_y, g_y, l_y, r_y, z_y, l2_y, l3_y, z2_y, htn, hap, c3, c4]
    refine loopK_next _ ?hm ?hf ⟨i + 1, t2, rfl, (by simp (disch := first | omega | (simp; done) | fail) [wrap64c, if_pos, if_neg, opAnd, opOr, opXor, opDiff, opShr, opBit, hnt, hcs, ntw, csw, ntu, csu, lL, lT, lD, c1, c2, hz, hz3, e0, e1, e2, e3, e10, e40, e41, hlt, e12, e73, e74, e75, hlt2, q_x, g_x, l_x, r_x, z_x, q_y, g_y, l_y, r_y, z_y, l2_y, l3_y, z2_y, htn] <;> omega), (by simp (disch := first | omega | (simp; done) | fail) [wrap64c, if_pos, if_neg, opAnd, opOr, opXor, opDiff, opShr, opBit, hnt, hcs, ntw, csw, ntu, csu, lL, lT, lD, c1, c2, hz, hz3, e0, e1, e2, e3, e10, e40, e41, hlt, e12, e73, e74, e75, hlt2, q_x, g_x, l_x, r_x, z_x, q_y, g_y, l_y, r_y, z_y, l2_y, l3_y, z2_y, htn] <;> omega), (by first | omega | assumption | (simp (disch := first | omega | (simp; done) | fail) [wrap64c, if_pos, if_neg, opAnd, opOr, opXor, opDiff, opShr, opBit, hnt, hcs, ntw, csw, ntu, csu, lL, lT, lD, c1, c2, hz, hz3, e0, e1, e2, e3, e10, e40, e41, hlt, e12, e73, e74, e75, hlt2, q_x, g_x, l_x, r_x, z_x, q_y, g_y, l_y, r_y, z_y, l2_y, l3_y, z2_y, htn] <;> omega)), ha3, (by rw [hts]; exact hr3)⟩
    (case hm => first | omega | (simp; omega))
    (case hf => simp [FrameL, hnt, hcs, ntw, csw, ntu, csu, lL, lT, lD, c1, c2, hz, hz3, e0, e1, e2, e3, e10, e40, e41, hlt, e12, e73, e74, e75, hlt2, q_x, g_x, l_x, r_x, z_x, q_y, g_y, l_y, r_y, z_y, l2_y, l3_y, z2_y, htn, f0_1, f10_1, f73_1, f74_1])
  · have hie : i = L.length := by omega
    subst hie
    rw [List.take_length] at hr
    have hrows := (hr.own (by simp [turnR]; omega)).rows
    have hvt := hr.nt
    have hct := hrows.cs
    obtain ⟨w5, h5, hc5, ha5, sp, rfl, hsp⟩ := orderSpace_ok hp t (turnR L) j hrows
    have A5 := (ha.trans ha2).trans ha5
    have hm5 := ha5.1.1
    have hmA := A5.1.1
    obtain ⟨b5, rfl, hb5⟩ := hsp
    have ntb := hb5.nt
    have csb := hb5.cs
    have hlx := hb5.ints.len
    try simp (disch := first | omega | (simp; done) | fail) [wrap64c, if_pos, if_neg, opAnd, opOr, opXor, opDiff, opShr, opBit, hnt, hcs, ntw, csw, ntu, csu, lL, lT, lD, c1, c2, hz, hz3, e0, e1, e2, e3, e10, e40, e41, hlt, e12, e73, e74, e75, hlt2, hvt, hct, ntb, csb, c3, c4]
    refine callG_c (by simp) (by simp) ?ha (hc5) ?_
    (case ha => simp (disch := first | omega | (simp; done) | fail) [wrap64c, if_pos, if_neg, opAnd, opOr, opXor, opDiff, opShr, opBit, hnt, hcs, ntw, csw, ntu, csu, lL, lT, lD, c1, c2, hz, hz3, e0, e1, e2, e3, e10, e40, e41, hlt, e12, e73, e74, e75, hlt2, hvt, hct, ntb, csb, c3, c4])
    cases hok : ordOK j (turnR L)
    · have hk : lateB j L T D = false := by rw [lateB, hok]; simp
      try simp (disch := first | omega | (simp; done) | fail) [wrap64c, if_pos, if_neg, opAnd, opOr, opXor, opDiff, opShr, opBit, hnt, hcs, ntw, csw, ntu, csu, lL, lT, lD, c1, c2, hz, hz3, e0, e1, e2, e3, e10, e40, e41, hlt, e12, e73, e74, e75, hlt2, hvt, hct, ntb, csb, hok, c3, c4]
      exact done_ret rfl ⟨(by first | exact aK | exact kK), _, by rw [hk]; rfl, by rw [lateR_no hk]; exact .nil _ _⟩
    · have hk : lateB j L T D = true := by rw [lateB, hok, hgv]; rfl
      have hOX : ordX j (turnR L) = toN (ordL j (turnR L)) := by unfold ordX; rw [if_pos hok]; simp
      have hON : ordN j (turnR L) = (j : Int) := by unfold ordN; rw [if_pos hok]
      have hsb : spB (j : Int) (toN (ordL j (turnR L))) = true := by
        have := hok
        simp only [ordOK, Bool.and_eq_true] at this
        simpa using this.2
      obtain ⟨m, ys, e1, e2, g⟩ := spB_true hsb
      have e3 : m = j := by omega
      subst e3
      have e4 : ys = ordL m (turnR L) := by have := congrArg natsOf e2; simpa [natsOf_toN] using this.symm
      subst e4
      rw [hOX] at hb5
      try simp (disch := first | omega | (simp; done) | fail) [wrap64c, if_pos, if_neg, opAnd, opOr, opXor, opDiff, opShr, opBit, hnt, hcs, ntw, csw, ntu, csu, lL, lT, lD, c1, c2, hz, hz3, e0, e1, e2, e3, e10, e40, e41, hlt, e12, e73, e74, e75, hlt2, hvt, hct, ntb, csb, hok, c3, c4, hON, putCells]
      first | refine WY_heap fun h6 q_h6 => ?_ | refine callG_heap fun h6 q_h6 => ?_ | refine callP_heap fun h6 q_h6 => ?_ | refine RY_heap fun h6 q_h6 => ?_ | refine PY_heap fun h6 q_h6 => ?_ | refine doneY_heap fun h6 q_h6 => ?_ | refine loopK_heap fun h6 q_h6 => ?_ | refine thenY_heap fun h6 q_h6 => ?_ | refine thenM_heap fun h6 q_h6 => ?_
      have k6 : Adds h5 h6 := by rw [q_h6]; exact (by first | exact aK | exact kK)
      have n6 : h6.next = h5.next + 1 := by simp [q_h6]
      have g6 : h6.get h5.next = .cells [.int .i64 m, b5] true true 1 := by simp [q_h6]
      obtain ⟨u7, h7, hc7, ha7, hi7⟩ := best_ok h6 (.agg #[.int .i64 (m : Int), b5]) q m (ordL m (turnR L)) (lateJ T D m) (.mk (hb5.keep k6.1).ints) (((hjobs.keep ha2.1).keep ha5.1).keep k6.1) g gj (by simp)
      have hm7 := ha7.1.1
      have nt7 := hi7.nt
      refine callG_c (by simp) (by simp) ?ha (hc7) ?_
      (case ha => simp (disch := first | omega | (simp; done) | fail) [wrap64c, if_pos, if_neg, opAnd, opOr, opXor, opDiff, opShr, opBit, hnt, hcs, ntw, csw, ntu, csu, lL, lT, lD, c1, c2, hz, hz3, e0, e1, e2, e3, e10, e40, e41, hlt, e12, e73, e74, e75, hlt2, hvt, hct, ntb, csb, hok, g6, nt7, c3, c4])
      try simp (disch := first | omega | (simp; done) | fail) [wrap64c, if_pos, if_neg, opAnd, opOr, opXor, opDiff, opShr, opBit, hnt, hcs, ntw, csw, ntu, csu, lL, lT, lD, c1, c2, hz, hz3, e0, e1, e2, e3, e10, e40, e41, hlt, e12, e73, e74, e75, hlt2, hvt, hct, ntb, csb, hok, g6, nt7, c3, c4]
      obtain ⟨h8, hc8, hi8, hn8, hA8, hU8⟩ := reverse_ok h7 u7 _ _ hi7 (by simp; omega)
      refine callG_c (by simp) (by simp) ?ha (hc8) ?_
      (case ha => simp (disch := first | omega | (simp; done) | fail) [wrap64c, if_pos, if_neg, opAnd, opOr, opXor, opDiff, opShr, opBit, hnt, hcs, ntw, csw, ntu, csu, lL, lT, lD, c1, c2, hz, hz3, e0, e1, e2, e3, e10, e40, e41, hlt, e12, e73, e74, e75, hlt2, hvt, hct, ntb, csb, hok, g6, nt7, c3, c4])
      try simp (disch := first | omega | (simp; done) | fail) [wrap64c, if_pos, if_neg, opAnd, opOr, opXor, opDiff, opShr, opBit, hnt, hcs, ntw, csw, ntu, csu, lL, lT, lD, c1, c2, hz, hz3, e0, e1, e2, e3, e10, e40, e41, hlt, e12, e73, e74, e75, hlt2, hvt, hct, ntb, csb, hok, g6, nt7, c3, c4]
      refine done_ret rfl ⟨hA8 h ((A5.trans k6).trans ha7) (fun o ho => by have := ho.1; omega), u7, by rw [hk]; rfl, ?_⟩
      rw [toN_reverse] at hi8
      have e : lateR m L T D = toN (greedN (costN (lateJ T D m)) (ordL m (turnR L)) m).reverse := by rw [lateR, if_pos hk]; simp
      rw [e]
      exact hi8.sub fun o ho => ⟨by have := ho.1; omega, by have := ho.2; omega⟩
end Go.Proofs.Ytnjabaeajjhliaa
