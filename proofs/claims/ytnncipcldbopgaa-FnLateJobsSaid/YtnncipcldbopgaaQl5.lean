/- Part 5 of the proof of lateJobs_holds: what it uses of the texts that lie in the notes, merged. -/
import Derived.Test.YtnncipcldbopgaaQl4
namespace Go.Proofs.Ytnncipcldbopgaa
set_option linter.unusedSimpArgs false
set_option linter.unusedVariables false
set_option maxHeartbeats 4000000
open Go Go.Eng
attribute [local irreducible] WD RunD PreD Runs CallOK
theorem lateB_no {N : Int} {L : List (List Int)} {T D : List Int} (h : givenB N L T D = false) : lateB N L T D = false := by rw [lateB, h]; rfl
theorem lateR_no {N : Int} {L : List (List Int)} {T D : List Int} (h : lateB N L T D = false) : lateR N L T D = [] := by unfold lateR; rw [if_neg (by rw [h]; simp)]
theorem implLate_ok (h : Hp) (v w u : Value) (L : List (List Int)) (N : Int) (T D : List Int) (hv : IRows h v L) (hw : Ints h w T) (hu : Ints h u D) :
    ∃ v' h', CallOK Try.prog 111 #[.int .i64 N, v, w, u] h v' h' ∧ Adds h h' ∧ ∃ r, v' = .tuple #[r, .bool (lateB N L T D)] ∧ IntsO (Btw h.next h'.next) h' r (lateR N L T D) := by
  have hnt := hv.nt
  have hcs := hv.cs
  have ntw := hw.nt
  have csw := hw.cs
  have ntu := hu.nt
  have csu := hu.cs
  have lL := hv.lenD
  have lT := hw.lenD
  have lD := hu.lenD
  have hLl := hv.len
  cases c1 : sizeB N
  · have hk : givenB N L T D = false := by simp [givenB, c1]
    refine callY_L (args := [.int .i64 N, v, w, u]) 104 _ [.tmp 8, .tmp 9] Try.func111 rfl rfl rfl ?_
    try simp (disch := first | omega | (simp; done) | fail) [wrap64c, if_pos, if_neg, opAnd, opOr, opXor, opDiff, opShr, opBit, hnt, hcs, ntw, csw, ntu, csu, lL, lT, lD, c1]
    refine callG_c (by simp) (by simp) ?ha (isSize_ok _ N) ?_
    (case ha => simp (disch := first | omega | (simp; done) | fail) [wrap64c, if_pos, if_neg, opAnd, opOr, opXor, opDiff, opShr, opBit, hnt, hcs, ntw, csw, ntu, csu, lL, lT, lD, c1])
    try simp (disch := first | omega | (simp; done) | fail) [wrap64c, if_pos, if_neg, opAnd, opOr, opXor, opDiff, opShr, opBit, hnt, hcs, ntw, csw, ntu, csu, lL, lT, lD, c1]
    exact done_ret rfl ⟨(by first | exact aK | exact kK), _, by rw [lateB_no hk]; rfl, by rw [lateR_no (lateB_no hk)]; exact .nil _ _⟩
  obtain ⟨n, rfl, n1, n7⟩ := sizeB_true c1
  cases c2 : pairsB n L
  · have hk : givenB n L T D = false := by simp [givenB, c1, c2]
    refine callY_L (args := [.int .i64 (n : Int), v, w, u]) 104 _ [.tmp 8, .tmp 9] Try.func111 rfl rfl rfl ?_
    try simp (disch := first | omega | (simp; done) | fail) [wrap64c, if_pos, if_neg, opAnd, opOr, opXor, opDiff, opShr, opBit, hnt, hcs, ntw, csw, ntu, csu, lL, lT, lD, c1, c2]
    refine callG_c (by simp) (by simp) ?ha (isSize_ok _ n) ?_
    (case ha => simp (disch := first | omega | (simp; done) | fail) [wrap64c, if_pos, if_neg, opAnd, opOr, opXor, opDiff, opShr, opBit, hnt, hcs, ntw, csw, ntu, csu, lL, lT, lD, c1, c2])
    try simp (disch := first | omega | (simp; done) | fail) [wrap64c, if_pos, if_neg, opAnd, opOr, opXor, opDiff, opShr, opBit, hnt, hcs, ntw, csw, ntu, csu, lL, lT, lD, c1, c2]
    refine callG_c (by simp) (by simp) ?ha (arePairs_ok h v L n (by omega) hv) ?_
    (case ha => simp (disch := first | omega | (simp; done) | fail) [wrap64c, if_pos, if_neg, opAnd, opOr, opXor, opDiff, opShr, opBit, hnt, hcs, ntw, csw, ntu, csu, lL, lT, lD, c1, c2])
    try simp (disch := first | omega | (simp; done) | fail) [wrap64c, if_pos, if_neg, opAnd, opOr, opXor, opDiff, opShr, opBit, hnt, hcs, ntw, csw, ntu, csu, lL, lT, lD, c1, c2]
    exact done_ret rfl ⟨(by first | exact aK | exact kK), _, by rw [lateB_no hk]; rfl, by rw [lateR_no (lateB_no hk)]; exact .nil _ _⟩
  by_cases c3 : T.length = n
  case neg =>
    have c3' : ((T.length : Int) != (n : Int)) = true := by simp [c3]
    have hk : givenB n L T D = false := by simp [givenB, c3]
    refine callY_L (args := [.int .i64 (n : Int), v, w, u]) 104 _ [.tmp 8, .tmp 9] Try.func111 rfl rfl rfl ?_
    try simp (disch := first | omega | (simp; done) | fail) [wrap64c, if_pos, if_neg, opAnd, opOr, opXor, opDiff, opShr, opBit, hnt, hcs, ntw, csw, ntu, csu, lL, lT, lD, c1, c2, c3']
    refine callG_c (by simp) (by simp) ?ha (isSize_ok _ n) ?_
    (case ha => simp (disch := first | omega | (simp; done) | fail) [wrap64c, if_pos, if_neg, opAnd, opOr, opXor, opDiff, opShr, opBit, hnt, hcs, ntw, csw, ntu, csu, lL, lT, lD, c1, c2, c3'])
    try simp (disch := first | omega | (simp; done) | fail) [wrap64c, if_pos, if_neg, opAnd, opOr, opXor, opDiff, opShr, opBit, hnt, hcs, ntw, csw, ntu, csu, lL, lT, lD, c1, c2, c3']
    refine callG_c (by simp) (by simp) ?ha (arePairs_ok h v L n (by omega) hv) ?_
    (case ha => simp (disch := first | omega | (simp; done) | fail) [wrap64c, if_pos, if_neg, opAnd, opOr, opXor, opDiff, opShr, opBit, hnt, hcs, ntw, csw, ntu, csu, lL, lT, lD, c1, c2, c3'])
    try simp (disch := first | omega | (simp; done) | fail) [wrap64c, if_pos, if_neg, opAnd, opOr, opXor, opDiff, opShr, opBit, hnt, hcs, ntw, csw, ntu, csu, lL, lT, lD, c1, c2, c3']
    exact done_ret rfl ⟨(by first | exact aK | exact kK), _, by rw [lateB_no hk]; rfl, by rw [lateR_no (lateB_no hk)]; exact .nil _ _⟩
  by_cases c4 : D.length = n
  case neg =>
    have c4' : ((D.length : Int) != (n : Int)) = true := by simp [c4]
    have hk : givenB n L T D = false := by simp [givenB, c4]
    refine callY_L (args := [.int .i64 (n : Int), v, w, u]) 104 _ [.tmp 8, .tmp 9] Try.func111 rfl rfl rfl ?_
    try simp (disch := first | omega | (simp; done) | fail) [wrap64c, if_pos, if_neg, opAnd, opOr, opXor, opDiff, opShr, opBit, hnt, hcs, ntw, csw, ntu, csu, lL, lT, lD, c1, c2, c4', c3]
    refine callG_c (by simp) (by simp) ?ha (isSize_ok _ n) ?_
    (case ha => simp (disch := first | omega | (simp; done) | fail) [wrap64c, if_pos, if_neg, opAnd, opOr, opXor, opDiff, opShr, opBit, hnt, hcs, ntw, csw, ntu, csu, lL, lT, lD, c1, c2, c4'])
    try simp (disch := first | omega | (simp; done) | fail) [wrap64c, if_pos, if_neg, opAnd, opOr, opXor, opDiff, opShr, opBit, hnt, hcs, ntw, csw, ntu, csu, lL, lT, lD, c1, c2, c4', c3]
    refine callG_c (by simp) (by simp) ?ha (arePairs_ok h v L n (by omega) hv) ?_
    (case ha => simp (disch := first | omega | (simp; done) | fail) [wrap64c, if_pos, if_neg, opAnd, opOr, opXor, opDiff, opShr, opBit, hnt, hcs, ntw, csw, ntu, csu, lL, lT, lD, c1, c2, c4'])
    try simp (disch := first | omega | (simp; done) | fail) [wrap64c, if_pos, if_neg, opAnd, opOr, opXor, opDiff, opShr, opBit, hnt, hcs, ntw, csw, ntu, csu, lL, lT, lD, c1, c2, c4', c3]
    exact done_ret rfl ⟨(by first | exact aK | exact kK), _, by rw [lateB_no hk]; rfl, by rw [lateR_no (lateB_no hk)]; exact .nil _ _⟩
  obtain ⟨hl40, hall⟩ := pairsB_all c2
  have hz : zarr #[Value.int .i64 0, Value.int .i64 0, Value.int .i64 0] 0 = #[] := by simp [zarr]
  have hz3 : zarr #[Value.int .i64 0, Value.int .i64 0, Value.int .i64 0] 3 = #[Value.int .i64 0, Value.int .i64 0, Value.int .i64 0] := zarr3_3 _ _ _
  refine callY_L (args := [.int .i64 (n : Int), v, w, u]) 104 _ [.tmp 8, .tmp 9] Try.func111 rfl rfl rfl ?_
  try simp (disch := first | omega | (simp; done) | fail) [wrap64c, if_pos, if_neg, opAnd, opOr, opXor, opDiff, opShr, opBit, hnt, hcs, ntw, csw, ntu, csu, lL, lT, lD, c1, c2, hz, hz3, c3, c4]
  refine callG_c (by simp) (by simp) ?ha (isSize_ok _ n) ?_
  (case ha => simp (disch := first | omega | (simp; done) | fail) [wrap64c, if_pos, if_neg, opAnd, opOr, opXor, opDiff, opShr, opBit, hnt, hcs, ntw, csw, ntu, csu, lL, lT, lD, c1, c2, hz, hz3])
  try simp (disch := first | omega | (simp; done) | fail) [wrap64c, if_pos, if_neg, opAnd, opOr, opXor, opDiff, opShr, opBit, hnt, hcs, ntw, csw, ntu, csu, lL, lT, lD, c1, c2, hz, hz3, c3, c4]
  refine callG_c (by simp) (by simp) ?ha (arePairs_ok h v L n (by omega) hv) ?_
  (case ha => simp (disch := first | omega | (simp; done) | fail) [wrap64c, if_pos, if_neg, opAnd, opOr, opXor, opDiff, opShr, opBit, hnt, hcs, ntw, csw, ntu, csu, lL, lT, lD, c1, c2, hz, hz3])
  try simp (disch := first | omega | (simp; done) | fail) [wrap64c, if_pos, if_neg, opAnd, opOr, opXor, opDiff, opShr, opBit, hnt, hcs, ntw, csw, ntu, csu, lL, lT, lD, c1, c2, hz, hz3, c3, c4]
  refine WD_loopC [0, 1, 2, 3, 40] (fun m tm h' => ∃ j q, m = n - j ∧ tm 10 = q ∧ tm 41 = .int .i64 (j : Int) ∧ (j ≤ n) ∧ (Adds h h') ∧ (GL 3 jobR h.next h' q (lateJ T D j)) ∧ (∀ i (hi : i < T.length) (hi2 : i < D.length), i < j → (1 ≤ T[i] ∧ T[i] ≤ 9) ∧ (0 ≤ D[i] ∧ D[i] ≤ 100))) _ ⟨0, _, rfl, (by simp (disch := first | omega | (simp; done) | fail) [wrap64c, if_pos, if_neg, opAnd, opOr, opXor, opDiff, opShr, opBit, hnt, hcs, ntw, csw, ntu, csu, lL, lT, lD, c1, c2, hz, hz3]), (by simp (disch := first | omega | (simp; done) | fail) [wrap64c, if_pos, if_neg, opAnd, opOr, opXor, opDiff, opShr, opBit, hnt, hcs, ntw, csw, ntu, csu, lL, lT, lD, c1, c2, hz, hz3]), (by first | omega | assumption | (simp (disch := first | omega | (simp; done) | fail) [wrap64c, if_pos, if_neg, opAnd, opOr, opXor, opDiff, opShr, opBit, hnt, hcs, ntw, csw, ntu, csu, lL, lT, lD, c1, c2, hz, hz3] <;> omega)), (by first | exact aK | exact kK), (.lit (ex := true) (Nat.le_refl _) (by simp) (by simp)), (fun i _ _ h0 => by omega)⟩ ?_
  rintro m tm h' hFr ⟨j, q, rfl, e10, e41, hj, ha, hg, hx⟩
  simp only [FrameL] at hFr
  obtain ⟨f0_0, f1_0, f2_0, f3_0, f40_0, -⟩ := hFr
  try simp (disch := first | omega | (simp; done) | fail) [wrap64c, if_pos, if_neg, opAnd, opOr, opXor, opDiff, opShr, opBit, hnt, hcs, ntw, csw, ntu, csu, lL, lT, lD, c1, c2, hz, hz3] at f0_0 f1_0 f2_0 f3_0 f40_0
  have e0 := f0_0
  have e1 := f1_0
  have e2 := f2_0
  have e3 := f3_0
  have e40 := f40_0
  rename Hp => hq
  by_cases hlt : j < n
  · obtain ⟨o_x, i_x, c_x, cs_x, own_x, ex_x, es_x, q_x, b_x, g_x, l_x, r_x⟩ := (hw.keep ha.1).open ((by omega))
    have z_x : ∀ h2 : i_x < cs_x.length, cs_x[i_x] = _ := fun h2 => r_x 0 ((by omega)) h2
    obtain ⟨o_y, i_y, c_y, cs_y, own_y, ex_y, es_y, q_y, b_y, g_y, l_y, r_y⟩ := (hu.keep ha.1).open ((by omega))
    have z_y : ∀ h2 : i_y < cs_y.length, cs_y[i_y] = _ := fun h2 => r_y 0 ((by omega)) h2
    have hjT : j < T.length := by omega
    have hjD : j < D.length := by omega
    try simp (disch := first | omega | (simp; done) | fail) [wrap64c, if_pos, if_neg, opAnd, opOr, opXor, opDiff, opShr, opBit, hnt, hcs, ntw, csw, ntu, csu, lL, lT, lD, c1, c2, hz, hz3, e0, e1, e2, e3, e10, e40, e41, hlt, q_x, g_x, l_x, r_x, z_x, q_y, g_y, l_y, r_y, z_y, hjT, hjD, c3, c4]
    have hc := within_ok hq T[j] 1 9
    have hd := within_ok hq D[j] 0 100
    by_cases d1 : 1 ≤ T[j] ∧ T[j] ≤ 9
    · rw [decide_eq_true d1] at hc
      refine callG_c (by simp) (by simp) ?ha (hc) ?_
      (case ha => simp (disch := first | omega | (simp; done) | fail) [wrap64c, if_pos, if_neg, opAnd, opOr, opXor, opDiff, opShr, opBit, hnt, hcs, ntw, csw, ntu, csu, lL, lT, lD, c1, c2, hz, hz3, e0, e1, e2, e3, e10, e40, e41, hlt, q_x, g_x, l_x, r_x, z_x, q_y, g_y, l_y, r_y, z_y, hjT, hjD, c3, c4])
      try simp (disch := first | omega | (simp; done) | fail) [wrap64c, if_pos, if_neg, opAnd, opOr, opXor, opDiff, opShr, opBit, hnt, hcs, ntw, csw, ntu, csu, lL, lT, lD, c1, c2, hz, hz3, e0, e1, e2, e3, e10, e40, e41, hlt, q_x, g_x, l_x, r_x, z_x, q_y, g_y, l_y, r_y, z_y, hjT, hjD, c3, c4]
      by_cases d2 : 0 ≤ D[j] ∧ D[j] ≤ 100
      · rw [decide_eq_true d2] at hd
        refine callG_c (by simp) (by simp) ?ha (hd) ?_
        (case ha => simp (disch := first | omega | (simp; done) | fail) [wrap64c, if_pos, if_neg, opAnd, opOr, opXor, opDiff, opShr, opBit, hnt, hcs, ntw, csw, ntu, csu, lL, lT, lD, c1, c2, hz, hz3, e0, e1, e2, e3, e10, e40, e41, hlt, q_x, g_x, l_x, r_x, z_x, q_y, g_y, l_y, r_y, z_y, hjT, hjD, c3, c4])
        try simp (disch := first | omega | (simp; done) | fail) [wrap64c, if_pos, if_neg, opAnd, opOr, opXor, opDiff, opShr, opBit, hnt, hcs, ntw, csw, ntu, csu, lL, lT, lD, c1, c2, hz, hz3, e0, e1, e2, e3, e10, e40, e41, hlt, q_x, g_x, l_x, r_x, z_x, q_y, g_y, l_y, r_y, z_y, hjT, hjD, c3, c4]
        refine WD_drawC 12 rfl (by kernel_rfl) ?_
        try simp (disch := first | omega | (simp; done) | fail) [wrap64c, if_pos, if_neg, opAnd, opOr, opXor, opDiff, opShr, opBit, hnt, hcs, ntw, csw, ntu, csu, lL, lT, lD, c1, c2, hz, hz3, e0, e1, e2, e3, e10, e40, e41, hlt, q_x, g_x, l_x, r_x, z_x, q_y, g_y, l_y, r_y, z_y, hjT, hjD, c3, c4]
        have ntq := hg.nt
        obtain ⟨q2, h2, hap, hg2, ha2, hn2, _⟩ := appJ hg (⟨T[j], 1, -D[j]⟩ : Job) (by simp; omega) ha.1.1 ha (Nat.le_refl _)
        try simp (disch := first | omega | (simp; done) | fail) [wrap64c, if_pos, if_neg, opAnd, opOr, opXor, opDiff, opShr, opBit, hnt, hcs, ntw, csw, ntu, csu, lL, lT, lD, c1, c2, hz, hz3, e0, e1, e2, e3, e10, e40, e41, hlt, q_x, g_x, l_x, r_x, z_x, q_y, g_y, l_y, r_y, z_y, hjT, hjD, ntq, hap, c3, c4]
        refine loopK_next _ ?hm ?hf ⟨j + 1, q2, rfl, (by simp (disch := first | omega | (simp; done) | fail) [wrap64c, if_pos, if_neg, opAnd, opOr, opXor, opDiff, opShr, opBit, hnt, hcs, ntw, csw, ntu, csu, lL, lT, lD, c1, c2, hz, hz3, e0, e1, e2, e3, e10, e40, e41, hlt, q_x, g_x, l_x, r_x, z_x, q_y, g_y, l_y, r_y, z_y, hjT, hjD, ntq] <;> omega), (by simp (disch := first | omega | (simp; done) | fail) [wrap64c, if_pos, if_neg, opAnd, opOr, opXor, opDiff, opShr, opBit, hnt, hcs, ntw, csw, ntu, csu, lL, lT, lD, c1, c2, hz, hz3, e0, e1, e2, e3, e10, e40, e41, hlt, q_x, g_x, l_x, r_x, z_x, q_y, g_y, l_y, r_y, z_y, hjT, hjD, ntq] <;> omega), (by first | omega | assumption | (simp (disch := first | omega | (simp; done) | fail) [wrap64c, if_pos, if_neg, opAnd, opOr, opXor, opDiff, opShr, opBit, hnt, hcs, ntw, csw, ntu, csu, lL, lT, lD, c1, c2, hz, hz3, e0, e1, e2, e3, e10, e40, e41, hlt, q_x, g_x, l_x, r_x, z_x, q_y, g_y, l_y, r_y, z_y, hjT, hjD, ntq] <;> omega)), ha2, (by rw [lateJ_succ]; simpa [List.getD_eq_getElem?_getD, hjT, hjD] using hg2), ?c_hx⟩
        (case hm => first | omega | (simp; omega))
        (case hf => simp [FrameL, hnt, hcs, ntw, csw, ntu, csu, lL, lT, lD, c1, c2, hz, hz3, e0, e1, e2, e3, e10, e40, e41, hlt, q_x, g_x, l_x, r_x, z_x, q_y, g_y, l_y, r_y, z_y, hjT, hjD, ntq, f0_0, f1_0, f2_0, f3_0, f40_0])
        case c_hx =>
          exact (fun i h1 h2 h3 => by
            by_cases e : i = j
            · subst e; exact ⟨d1, d2⟩
            · exact hx i h1 h2 (by omega))
      · rw [decide_eq_false d2] at hd
        refine callG_c (by simp) (by simp) ?ha (hd) ?_
        (case ha => simp (disch := first | omega | (simp; done) | fail) [wrap64c, if_pos, if_neg, opAnd, opOr, opXor, opDiff, opShr, opBit, hnt, hcs, ntw, csw, ntu, csu, lL, lT, lD, c1, c2, hz, hz3, e0, e1, e2, e3, e10, e40, e41, hlt, q_x, g_x, l_x, r_x, z_x, q_y, g_y, l_y, r_y, z_y, hjT, hjD, c3, c4])
        try simp (disch := first | omega | (simp; done) | fail) [wrap64c, if_pos, if_neg, opAnd, opOr, opXor, opDiff, opShr, opBit, hnt, hcs, ntw, csw, ntu, csu, lL, lT, lD, c1, c2, hz, hz3, e0, e1, e2, e3, e10, e40, e41, hlt, q_x, g_x, l_x, r_x, z_x, q_y, g_y, l_y, r_y, z_y, hjT, hjD, c3, c4]
        have hk : givenB n L T D = false := by
          have : decide (∀ x ∈ D, 0 ≤ x ∧ x ≤ 100) = false := decide_eq_false fun q => d2 (q _ (List.getElem_mem hjD))
          rw [givenB, this]; simp
        exact done_ret rfl ⟨(by first | exact aK | exact kK), _, by rw [lateB_no hk]; rfl, by rw [lateR_no (lateB_no hk)]; exact .nil _ _⟩
    · rw [decide_eq_false d1] at hc
      refine callG_c (by simp) (by simp) ?ha (hc) ?_
      (case ha => simp (disch := first | omega | (simp; done) | fail) [wrap64c, if_pos, if_neg, opAnd, opOr, opXor, opDiff, opShr, opBit, hnt, hcs, ntw, csw, ntu, csu, lL, lT, lD, c1, c2, hz, hz3, e0, e1, e2, e3, e10, e40, e41, hlt, q_x, g_x, l_x, r_x, z_x, q_y, g_y, l_y, r_y, z_y, hjT, hjD, c3, c4])
      try simp (disch := first | omega | (simp; done) | fail) [wrap64c, if_pos, if_neg, opAnd, opOr, opXor, opDiff, opShr, opBit, hnt, hcs, ntw, csw, ntu, csu, lL, lT, lD, c1, c2, hz, hz3, e0, e1, e2, e3, e10, e40, e41, hlt, q_x, g_x, l_x, r_x, z_x, q_y, g_y, l_y, r_y, z_y, hjT, hjD, c3, c4]
      have hk : givenB n L T D = false := by
        have : decide (∀ x ∈ T, 1 ≤ x ∧ x ≤ 9) = false := decide_eq_false fun q => d1 (q _ (List.getElem_mem hjT))
        rw [givenB, this]; simp
      exact done_ret rfl ⟨(by first | exact aK | exact kK), _, by rw [lateB_no hk]; rfl, by rw [lateR_no (lateB_no hk)]; exact .nil _ _⟩
  have hje : j = n := by omega
  subst hje
  have hT : ∀ x ∈ T, 1 ≤ x ∧ x ≤ 9 := fun x hx' => by
    obtain ⟨k, hk, rfl⟩ := List.getElem_of_mem hx'
    exact (hx k hk (by omega) (by omega)).1
  have hD : ∀ x ∈ D, 0 ≤ x ∧ x ≤ 100 := fun x hx' => by
    obtain ⟨k, hk, rfl⟩ := List.getElem_of_mem hx'
    exact (hx k (by omega) hk (by omega)).2
  have hgv : givenB j L T D = true := by
    simp only [givenB, c1, c2, c3, c4, Bool.true_and, decide_true, Bool.and_eq_true, decide_eq_true_eq]
    exact ⟨hT, hD⟩
  have gj := lateJ_ok n7 c3 c4 hT hD
  have hjobs := jobs_of hg (by simp; omega)
  try simp (disch := first | omega | (simp; done) | fail) [wrap64c, if_pos, if_neg, opAnd, opOr, opXor, opDiff, opShr, opBit, hnt, hcs, ntw, csw, ntu, csu, lL, lT, lD, c1, c2, hz, hz3, e0, e1, e2, e3, e10, e40, e41, hlt, c3, c4]
  refine WD_loopC [0, 10, 73, 74] (fun m tm h' => ∃ i t, m = L.length - i ∧ tm 12 = t ∧ tm 75 = .int .i64 (i : Int) ∧ (i ≤ L.length) ∧ (Adds hq h') ∧ (IRowsA hq.next h' t (turnR (L.take i)))) _ ⟨0, .slice (some ⟨hq.next, 0, none⟩) 0 0, rfl, (by simp (disch := first | omega | (simp; done) | fail) [wrap64c, if_pos, if_neg, opAnd, opOr, opXor, opDiff, opShr, opBit, hnt, hcs, ntw, csw, ntu, csu, lL, lT, lD, c1, c2, hz, hz3, e0, e1, e2, e3, e10, e40, e41, hlt]), (by simp (disch := first | omega | (simp; done) | fail) [wrap64c, if_pos, if_neg, opAnd, opOr, opXor, opDiff, opShr, opBit, hnt, hcs, ntw, csw, ntu, csu, lL, lT, lD, c1, c2, hz, hz3, e0, e1, e2, e3, e10, e40, e41, hlt]), (by first | omega | assumption | (simp (disch := first | omega | (simp; done) | fail) [wrap64c, if_pos, if_neg, opAnd, opOr, opXor, opDiff, opShr, opBit, hnt, hcs, ntw, csw, ntu, csu, lL, lT, lD, c1, c2, hz, hz3, e0, e1, e2, e3, e10, e40, e41, hlt] <;> omega)), (by first | exact aK | exact kK), (irowsA_lit (ex := true) (Nat.le_refl _) (by simp) (by simp))⟩ ?_
  rintro m tm h' hFr ⟨i, t, rfl, e12, e75, hi, ha2, hr⟩
  simp only [FrameL] at hFr
  obtain ⟨f0_1, f10_1, f73_1, f74_1, -⟩ := hFr
  try simp (disch := first | omega | (simp; done) | fail) [wrap64c, if_pos, if_neg, opAnd, opOr, opXor, opDiff, opShr, opBit, hnt, hcs, ntw, csw, ntu, csu, lL, lT, lD, c1, c2, hz, hz3, e0, e1, e2, e3, e10, e40, e41, hlt] at f0_1 f10_1 f73_1 f74_1
  have e0 := f0_1
  have e10 := f10_1
  have e73 := f73_1
  have e74 := f74_1
  rename Hp => hp
  have hv2 := (hv.keep ha.1).keep ha2.1
  have hm2 := ha2.1.1
  by_cases hlt2 : i < L.length
  · obtain ⟨c, d, hc, hd, hcd⟩ := pair_two (hall _ (List.getElem_mem hlt2))
    obtain ⟨o_x, i_x, c_x, cs_x, own_x, ex_x, es_x, us_x, q_x, b_x, g_x, l_x, r_x, R_x⟩ := hv2.open ((by omega))
    have z_x : ∀ h2 : i_x < cs_x.length, cs_x[i_x] = _ := fun h2 => r_x 0 ((by omega)) h2
    have hR := R_x i hlt2
    rw [hcd] at hR
    obtain ⟨o_y, i_y, c_y, cs_y, own_y, ex_y, es_y, q_y, b_y, g_y, l_y, r_y⟩ := hR.open ((by simp))
    have z_y : ∀ h2 : i_y < cs_y.length, cs_y[i_y] = _ := fun h2 => r_y 0 ((by simp)) h2
    have l2_y : i_y + 1 < cs_y.length := by have := l_y; simp at this; omega
    have l3_y : i_y < cs_y.length := by omega
    have z2_y := r_y 1 (by simp)
    have htl : (turnR (L.take i)).length ≤ i := by simp [turnR]; omega
    have hts := turnR_succ L hlt2
    simp only [hcd, List.getD_cons_zero, List.getD_cons_succ] at hts
    have htn := hr.nt
    try simp (disch := first | omega | (simp; done) | fail) [wrap64c, if_pos, if_neg, opAnd, opOr, opXor, opDiff, opShr, opBit, hnt, hcs, ntw, csw, ntu, csu, lL, lT, lD, c1, c2, hz, hz3, e0, e1, e2, e3, e10, e40, e41, hlt, e12, e73, e74, e75, hlt2, q_x, g_x, l_x, r_x, z_x, q_y, g_y, l_y, r_y, z_y, l2_y, l3_y, z2_y, htn, c3, c4]
    refine WD_drawC 9 rfl (by kernel_rfl) ?_
    try simp (disch := first | omega | (simp; done) | fail) [wrap64c, if_pos, if_neg, opAnd, opOr, opXor, opDiff, opShr, opBit, hnt, hcs, ntw, csw, ntu, csu, lL, lT, lD, c1, c2, hz, hz3, e0, e1, e2, e3, e10, e40, e41, hlt, e12, e73, e74, e75, hlt2, q_x, g_x, l_x, r_x, z_x, q_y, g_y, l_y, r_y, z_y, l2_y, l3_y, z2_y, htn, c3, c4]
    obtain ⟨t2, h3, hap, hr3, ha3, hn3, _⟩ := appP hr (d : Int) (c : Int) (by omega) (by omega) ha2 (Nat.le_refl _)
    try simp (disch := first | omega | (simp; done) | fail) [wrap64c, if_pos, if_neg, opAnd, opOr, opXor, opDiff, opShr, opBit, hnt, hcs, ntw, csw, ntu, csu, lL, lT, lD, c1, c2, hz, hz3, e0, e1, e2, e3, e10, e40, e41, hlt, e12, e73, e74, e75, hlt2, q_x, g_x, l_x, r_x, z_x, q_y, g_y, l_y, r_y, z_y, l2_y, l3_y, z2_y, htn, hap, c3, c4]
    refine loopK_next _ ?hm ?hf ⟨i + 1, t2, rfl, (by simp (disch := first | omega | (simp; done) | fail) [wrap64c, if_pos, if_neg, opAnd, opOr, opXor, opDiff, opShr, opBit, hnt, hcs, ntw, csw, ntu, csu, lL, lT, lD, c1, c2, hz, hz3, e0, e1, e2, e3, e10, e40, e41, hlt, e12, e73, e74, e75, hlt2, q_x, g_x, l_x, r_x, z_x, q_y, g_y, l_y, r_y, z_y, l2_y, l3_y, z2_y, htn] <;> omega), (by simp (disch := first | omega | (simp; done) | fail) [wrap64c, if_pos, if_neg, opAnd, opOr, opXor, opDiff, opShr, opBit, hnt, hcs, ntw, csw, ntu, csu, lL, lT, lD, c1, c2, hz, hz3, e0, e1, e2, e3, e10, e40, e41, hlt, e12, e73, e74, e75, hlt2, q_x, g_x, l_x, r_x, z_x, q_y, g_y, l_y, r_y, z_y, l2_y, l3_y, z2_y, htn] <;> omega), (by first | omega | assumption | (simp (disch := first | omega | (simp; done) | fail) [wrap64c, if_pos, if_neg, opAnd, opOr, opXor, opDiff, opShr, opBit, hnt, hcs, ntw, csw, ntu, csu, lL, lT, lD, c1, c2, hz, hz3, e0, e1, e2, e3, e10, e40, e41, hlt, e12, e73, e74, e75, hlt2, q_x, g_x, l_x, r_x, z_x, q_y, g_y, l_y, r_y, z_y, l2_y, l3_y, z2_y, htn] <;> omega)), ha3, (by rw [hts]; exact hr3)⟩
    (case hm => first | omega | (simp; omega))
    (case hf => simp [FrameL, hnt, hcs, ntw, csw, ntu, csu, lL, lT, lD, c1, c2, hz, hz3, e0, e1, e2, e3, e10, e40, e41, hlt, e12, e73, e74, e75, hlt2, q_x, g_x, l_x, r_x, z_x, q_y, g_y, l_y, r_y, z_y, l2_y, l3_y, z2_y, htn, f0_1, f10_1, f73_1, f74_1])
  · have hie : i = L.length := by omega
    subst hie
    rw [List.take_length] at hr
    have hrows := (hr.own (by simp [turnR]; omega)).rows
    have hvt := hr.nt
    have hct := hrows.cs
    obtain ⟨w5, h5, hc5, ha5, sp, rfl, hsp⟩ := orderSpace_ok hp t (turnR L) j hrows
    have A5 := (ha.trans ha2).trans ha5
    have hm5 := ha5.1.1
    have hmA := A5.1.1
    obtain ⟨b5, rfl, hb5⟩ := hsp
    have ntb := hb5.nt
    have csb := hb5.cs
    have hlx := hb5.ints.len
    try simp (disch := first | omega | (simp; done) | fail) [wrap64c, if_pos, if_neg, opAnd, opOr, opXor, opDiff, opShr, opBit, hnt, hcs, ntw, csw, ntu, csu, lL, lT, lD, c1, c2, hz, hz3, e0, e1, e2, e3, e10, e40, e41, hlt, e12, e73, e74, e75, hlt2, hvt, hct, ntb, csb, c3, c4]
    refine callG_c (by simp) (by simp) ?ha (hc5) ?_
    (case ha => simp (disch := first | omega | (simp; done) | fail) [wrap64c, if_pos, if_neg, opAnd, opOr, opXor, opDiff, opShr, opBit, hnt, hcs, ntw, csw, ntu, csu, lL, lT, lD, c1, c2, hz, hz3, e0, e1, e2, e3, e10, e40, e41, hlt, e12, e73, e74, e75, hlt2, hvt, hct, ntb, csb, c3, c4])
    cases hok : ordOK j (turnR L)
    · have hk : lateB j L T D = false := by rw [lateB, hok]; simp
      try simp (disch := first | omega | (simp; done) | fail) [wrap64c, if_pos, if_neg, opAnd, opOr, opXor, opDiff, opShr, opBit, hnt, hcs, ntw, csw, ntu, csu, lL, lT, lD, c1, c2, hz, hz3, e0, e1, e2, e3, e10, e40, e41, hlt, e12, e73, e74, e75, hlt2, hvt, hct, ntb, csb, hok, c3, c4]
      exact done_ret rfl ⟨(by first | exact aK | exact kK), _, by rw [hk]; rfl, by rw [lateR_no hk]; exact .nil _ _⟩
    · have hk : lateB j L T D = true := by rw [lateB, hok, hgv]; rfl
      have hOX : ordX j (turnR L) = toN (ordL j (turnR L)) := by unfold ordX; rw [if_pos hok]; simp
      have hON : ordN j (turnR L) = (j : Int) := by unfold ordN; rw [if_pos hok]
      have hsb : spB (j : Int) (toN (ordL j (turnR L))) = true := by
        have := hok
        simp only [ordOK, Bool.and_eq_true] at this
        simpa using this.2
      obtain ⟨m, ys, e1, e2, g⟩ := spB_true hsb
      have e3 : m = j := by omega
      subst e3
      have e4 : ys = ordL m (turnR L) := by have := congrArg natsOf e2; simpa [natsOf_toN] using this.symm
      subst e4
      rw [hOX] at hb5
      try simp (disch := first | omega | (simp; done) | fail) [wrap64c, if_pos, if_neg, opAnd, opOr, opXor, opDiff, opShr, opBit, hnt, hcs, ntw, csw, ntu, csu, lL, lT, lD, c1, c2, hz, hz3, e0, e1, e2, e3, e10, e40, e41, hlt, e12, e73, e74, e75, hlt2, hvt, hct, ntb, csb, hok, c3, c4, hON, putCells]
      first | refine WY_heap fun h6 q_h6 => ?_ | refine callG_heap fun h6 q_h6 => ?_ | refine callP_heap fun h6 q_h6 => ?_ | refine callS_heap fun h6 q_h6 => ?_ | refine RY_heap fun h6 q_h6 => ?_ | refine PY_heap fun h6 q_h6 => ?_ | refine SY_heap fun h6 q_h6 => ?_ | refine doneY_heap fun h6 q_h6 => ?_ | refine loopK_heap fun h6 q_h6 => ?_ | refine thenY_heap fun h6 q_h6 => ?_ | refine thenM_heap fun h6 q_h6 => ?_
      have k6 : Adds h5 h6 := by rw [q_h6]; exact (by first | exact aK | exact kK)
      have n6 : h6.next = h5.next + 1 := by simp [q_h6]
      have g6 : h6.get h5.next = .cells [.int .i64 m, b5] true true 1 := by simp [q_h6]
      obtain ⟨u7, h7, hc7, ha7, hi7⟩ := best_ok h6 (.agg #[.int .i64 (m : Int), b5]) q m (ordL m (turnR L)) (lateJ T D m) (.mk (hb5.keep k6.1).ints) (((hjobs.keep ha2.1).keep ha5.1).keep k6.1) g gj (by simp)
      have hm7 := ha7.1.1
      have nt7 := hi7.nt
      refine callG_c (by simp) (by simp) ?ha (hc7) ?_
      (case ha => simp (disch := first | omega | (simp; done) | fail) [wrap64c, if_pos, if_neg, opAnd, opOr, opXor, opDiff, opShr, opBit, hnt, hcs, ntw, csw, ntu, csu, lL, lT, lD, c1, c2, hz, hz3, e0, e1, e2, e3, e10, e40, e41, hlt, e12, e73, e74, e75, hlt2, hvt, hct, ntb, csb, hok, g6, nt7, c3, c4])
      try simp (disch := first | omega | (simp; done) | fail) [wrap64c, if_pos, if_neg, opAnd, opOr, opXor, opDiff, opShr, opBit, hnt, hcs, ntw, csw, ntu, csu, lL, lT, lD, c1, c2, hz, hz3, e0, e1, e2, e3, e10, e40, e41, hlt, e12, e73, e74, e75, hlt2, hvt, hct, ntb, csb, hok, g6, nt7, c3, c4]
      obtain ⟨h8, hc8, hi8, hn8, hA8, hU8⟩ := reverse_ok h7 u7 _ _ hi7 (by simp; omega)
      refine callG_c (by simp) (by simp) ?ha (hc8) ?_
      (case ha => simp (disch := first | omega | (simp; done) | fail) [wrap64c, if_pos, if_neg, opAnd, opOr, opXor, opDiff, opShr, opBit, hnt, hcs, ntw, csw, ntu, csu, lL, lT, lD, c1, c2, hz, hz3, e0, e1, e2, e3, e10, e40, e41, hlt, e12, e73, e74, e75, hlt2, hvt, hct, ntb, csb, hok, g6, nt7, c3, c4])
      try simp (disch := first | omega | (simp; done) | fail) [wrap64c, if_pos, if_neg, opAnd, opOr, opXor, opDiff, opShr, opBit, hnt, hcs, ntw, csw, ntu, csu, lL, lT, lD, c1, c2, hz, hz3, e0, e1, e2, e3, e10, e40, e41, hlt, e12, e73, e74, e75, hlt2, hvt, hct, ntb, csb, hok, g6, nt7, c3, c4]
      refine done_ret rfl ⟨hA8 h ((A5.trans k6).trans ha7) (fun o ho => by have := ho.1; omega), u7, by rw [hk]; rfl, ?_⟩
      rw [toN_reverse] at hi8
      have e : lateR m L T D = toN (greedN (costN (lateJ T D m)) (ordL m (turnR L)) m).reverse := by rw [lateR, if_pos hk]; simp
      rw [e]
      exact hi8.sub fun o ho => ⟨by have := ho.1; omega, by have := ho.2; omega⟩
end Go.Proofs.Ytnncipcldbopgaa
namespace Go.Proofs.Ytnncipcldbopgaa
set_option linter.unusedSimpArgs false
set_option linter.unusedVariables false
open Go Go.Eng
def lateS (T D : List Int) (p : Int × Int) (i : Nat) : Int × Int := (p.1 + T.getD i 0, if p.2 < p.1 + T.getD i 0 - D.getD i 0 then p.1 + T.getD i 0 - D.getD i 0 else p.2)
def lateP (T D : List Int) (l : List Nat) : Int × Int := l.foldl (lateS T D) (0, -1000)
theorem lateP_snoc (T D : List Int) (l : List Nat) (i : Nat) : lateP T D (l ++ [i]) = lateS T D (lateP T D l) i := by simp [lateP]
theorem lateP_rev (T D : List Int) (l : List Nat) : lateP T D l.reverse = l.foldr (fun i p => lateS T D p i) (0, -1000) := by rw [lateP, List.foldl_reverse]
theorem jobAt_late {T D : List Int} {n i : Nat} (hi : i < n) : jobAt (lateJ T D n) i = ⟨T.getD i 0, 1, -D.getD i 0⟩ := by
  simp [jobAt, lateJ, hi]
theorem sumT_or (L : List Job) {s i : Nat} (h : s.testBit i = false) : ∀ k, sumT L s k = sumT L (nOr s (bit i)) k + if i < k then (jobAt L i).ti else 0
  | 0 => by simp [sumT]
  | k + 1 => by
    rw [sumT, sumT, sumT_or L h k, nOr_bit, bit_bit]
    by_cases hk : i = k
    · subst hk
      simp [h]
    · rw [decide_eq_false hk, Bool.or_false]
      have : (i < k + 1) = (i < k) := by rw [eq_iff_iff]; omega
      simp only [this]
      split <;> omega
theorem sumT_full (L : List Job) (n : Nat) : ∀ k, k ≤ n → sumT L (bit n - 1) k = 0
  | 0, _ => by simp [sumT]
  | k + 1, h => by rw [sumT, full_bit, decide_eq_true (by omega), if_pos rfl, sumT_full L n k (by omega)]
theorem late_most {n : Nat} {xs : List Nat} (g : SpGood n xs) (T D : List Int) : ∀ (k s : Nat) (l : List Nat), l ∈ chF (fam xs) n k s → s ∈ xs → pcN s + k = n →
    (l.foldr (fun i p => lateS T D p i) (0, -1000)).1 = sumT (lateJ T D n) s n ∧ ∀ lim, (l.foldr (fun i p => lateS T D p i) (0, -1000)).2 ≤ lim ↔ -1000 ≤ lim ∧ okW (costN (lateJ T D n)) lim l s = true
  | 0, s, l, hl, hs, hk => by
    simp [chF] at hl
    subst hl
    have hf : s = bit n - 1 := (pcN_lt g.n7 (g.lt s hs)).2 (by omega)
    subst hf
    refine ⟨(sumT_full _ n n (Nat.le_refl _)).symm, fun lim => by simp [okW]⟩
  | k + 1, s, l, hl, hs, hk => by
    rw [chF, List.mem_flatMap] at hl
    obtain ⟨i, hi, hl⟩ := hl
    obtain ⟨t, ht, rfl⟩ := List.mem_map.1 hl
    obtain ⟨a1, a2, a3⟩ := g.learn hi
    obtain ⟨b1, b2⟩ := late_most g T D k _ t ht a3 (by rw [pcN_or (by have := g.lt s hs; have := bit7 g.n7; omega) (by have := g.n7; omega) a2]; omega)
    have e1 : (t.foldr (fun i p => lateS T D p i) (0, -1000)).1 + T.getD i 0 = sumT (lateJ T D n) s n := by
      rw [b1, sumT_or (lateJ T D n) a2 n, if_pos a1, jobAt_late a1]
    have e2 : costN (lateJ T D n) s i = sumT (lateJ T D n) s n - D.getD i 0 := by
      rw [costN, jobAt_late a1, lateJ_len]
      simp only [Int.one_mul]
      omega
    refine ⟨?_, fun lim => ?_⟩
    · show (t.foldr (fun i p => lateS T D p i) (0, -1000)).1 + T.getD i 0 = _
      exact e1
    · show (if (t.foldr (fun i p => lateS T D p i) (0, -1000)).2 < (t.foldr (fun i p => lateS T D p i) (0, -1000)).1 + T.getD i 0 - D.getD i 0 then (t.foldr (fun i p => lateS T D p i) (0, -1000)).1 + T.getD i 0 - D.getD i 0 else (t.foldr (fun i p => lateS T D p i) (0, -1000)).2) ≤ lim ↔ _
      rw [e1, okW, Bool.and_eq_true, decide_eq_true_eq, e2]
      have := b2 lim
      generalize (t.foldr (fun i p => lateS T D p i) (0, -1000)).2 = z at *
      constructor
      · intro h
        split at h
        · exact ⟨(this.1 (by omega)).1, h, (this.1 (by omega)).2⟩
        · exact ⟨(this.1 h).1, by omega, (this.1 h).2⟩
      · rintro ⟨h1, h2, h3⟩
        split
        · exact h2
        · exact this.2 ⟨h1, h3⟩
theorem cost_low {L : List Job} (gj : JobsOK L) (s : Nat) {i : Nat} (hi : i < L.length) : -1000 ≤ costN L s i := by
  obtain ⟨h1, h2, h3⟩ := gj.at hi
  have h4 := sumT_le gj s L.length (Nat.le_refl _)
  rw [costN]
  have : 0 ≤ (jobAt L i).ra * sumT L s L.length := Int.mul_nonneg h2.1 h4.1
  omega
theorem late_best {n : Nat} {xs : List Nat} {T D : List Int} (g : SpGood n xs) (gj : JobsOK (lateJ T D n)) : (lateP T D (greedN (costN (lateJ T D n)) xs n).reverse).2 = topN (costN (lateJ T D n)) (greedN (costN (lateJ T D n)) xs n) := by
  have hch := greed_ch g (costN (lateJ T D n))
  obtain ⟨_, h2⟩ := late_most g T D n 0 _ hch g.zero (by rw [show pcN 0 = 0 by decide]; omega)
  rw [lateP_rev]
  generalize (List.foldr (fun i p => lateS T D p i) (0, -1000) (greedN (costN (lateJ T D n)) xs n)).2 = z at *
  have h3 := fun lim => topW_le (costN (lateJ T D n)) lim (greedN (costN (lateJ T D n)) xs n) 0 (-10000)
  have h4 : topW (costN (lateJ T D n)) (greedN (costN (lateJ T D n)) xs n) 0 (-10000) = topN (costN (lateJ T D n)) (greedN (costN (lateJ T D n)) xs n) := rfl
  rw [h4] at h3
  obtain ⟨S, i, _, _, s1, s2, s3, s4, s5⟩ := crit_least g gj (by simp)
  have hlow := cost_low gj S (i := i) (by rw [lateJ_len]; exact (g.learn s3).1)
  apply Int.le_antisymm
  · exact (h2 _).2 ⟨by omega, ((h3 _).1 (Int.le_refl _)).2⟩
  · have := (h2 z).1 (Int.le_refl _)
    exact (h3 z).2 ⟨by omega, this.2⟩
theorem greed_all {n : Nat} {xs : List Nat} (g : SpGood n xs) (c : Nat → Nat → Int) {a : Nat} (ha : a < n) : ∃ j, j < n ∧ (greedN c xs n).getD j 0 = a := by
  have h := (greed_end g c (k := n) (Nat.le_refl _)).2 rfl
  have hb : (setW (greedN c xs n) 0).testBit a = true := by
    rw [show setW (greedN c xs n) 0 = (greedS c (fam xs) n n).2 from greed_set c (fam xs) n n, h, full_bit, decide_eq_true ha]
  rw [setW_bit, Nat.zero_testBit, Bool.false_or, decide_eq_true_eq] at hb
  obtain ⟨j, hj, e⟩ := List.mem_iff_getElem.1 hb
  have hl : (greedN c xs n).length = n := greed_len _ _ _ _
  exact ⟨j, by omega, by rw [List.getD_eq_getElem?_getD, List.getElem?_eq_getElem hj]; exact e⟩
theorem greed_before {n : Nat} {xs : List Nat} (g : SpGood n xs) (c : Nat → Nat → Int) {a b : Nat} (ha : a < n) (hab : a ≠ b) (hk : ∀ s ∈ xs, s.testBit a = true → s.testBit b = true) : ∃ i j, i < j ∧ j < n ∧ (greedN c xs n).getD j 0 = a ∧ (greedN c xs n).getD i 0 = b := by
  obtain ⟨j, hj, e⟩ := greed_all g c ha
  have hl : (greedN c xs n).length = n := greed_len _ _ _ _
  have hi := greed_inv g c (j + 1) (by omega)
  have hset : setW ((greedN c xs n).take (j + 1)) 0 = (greedS c (fam xs) n (j + 1)).2 := by
    show setW ((greedS c (fam xs) n n).1.take (j + 1)) 0 = _
    rw [greed_take c (fam xs) n (j + 1) n (by omega), greed_set]
  have hjl : j < (greedN c xs n).length := by omega
  have e' : (greedN c xs n)[j] = a := by rw [List.getD_eq_getElem?_getD, List.getElem?_eq_getElem hjl] at e; exact e
  have hta : (greedS c (fam xs) n (j + 1)).2.testBit a = true := by
    rw [← hset, setW_bit, Nat.zero_testBit, Bool.false_or, decide_eq_true_eq, List.take_succ_eq_append_getElem hjl]
    simp [e']
  have htb := hk _ hi.1 hta
  rw [← hset, setW_bit, Nat.zero_testBit, Bool.false_or, decide_eq_true_eq, List.take_succ_eq_append_getElem hjl, List.mem_append, List.mem_singleton, e'] at htb
  rcases htb with h | h
  · obtain ⟨i, hi2, e2⟩ := List.mem_iff_getElem.1 h
    rw [List.length_take] at hi2
    rw [List.getElem_take] at e2
    exact ⟨i, j, by omega, hj, e, by rw [List.getD_eq_getElem?_getD, List.getElem?_eq_getElem (by omega)]; exact e2⟩
  · exact absurd h.symm hab
theorem late_places {n : Nat} {R : List Nat} (hl : R.length = n) (hn : R.Nodup) (hlt : ∀ i ∈ R, i < n) {P : List Int} {j : Nat} (hP : P.length = n) (hj : j < n) (h : ∀ k, k < j → P.getD (R.getD k 0) 0 = (k : Int)) : ∀ k, k < j + 1 → (P.set (R.getD j 0) (j : Int)).getD (R.getD k 0) 0 = (k : Int) := by
  intro k hk
  have hRj : R.getD j 0 < n := by rw [List.getD_eq_getElem?_getD, List.getElem?_eq_getElem (by omega)]; exact hlt _ (List.getElem_mem _)
  by_cases hkj : k = j
  · subst hkj
    simp [List.getD_eq_getElem?_getD] at hRj ⊢
    rw [List.getElem?_set_self (by omega)]
    rfl
  · have hne : R.getD j 0 ≠ R.getD k 0 := by
      rw [List.getD_eq_getElem?_getD, List.getD_eq_getElem?_getD, List.getElem?_eq_getElem (by omega), List.getElem?_eq_getElem (by omega)]
      intro e
      exact hkj ((List.getElem_inj hn).1 e).symm
    have := h k (by omega)
    rw [List.getD_eq_getElem?_getD] at this ⊢
    rw [List.getElem?_set_ne hne]
    exact this
end Go.Proofs.Ytnncipcldbopgaa
namespace Go.Proofs.Ytnncipcldbopgaa
set_option linter.unusedSimpArgs false
set_option linter.unusedVariables false
open Go Go.Eng
theorem lateB_true {N : Int} {L : List (List Int)} {T D : List Int} (h : lateB N L T D = true) : ∃ n : Nat, N = (n : Int) ∧ 1 ≤ n ∧ n ≤ 7 ∧ L.length ≤ 40 ∧ (∀ x ∈ L, pairB (n : Int) x = true) ∧ T.length = n ∧ D.length = n ∧ (∀ x ∈ T, 1 ≤ x ∧ x ≤ 9) ∧ (∀ x ∈ D, 0 ≤ x ∧ x ≤ 100) ∧ SpGood n (ordL n (turnR L)) ∧ ordOK (n : Int) (turnR L) = true := by
  simp only [lateB, givenB, Bool.and_eq_true, decide_eq_true_eq] at h
  obtain ⟨⟨c1, c2, c3, c4, c5, c6⟩, c7⟩ := h
  obtain ⟨n, rfl, n1, n7⟩ := sizeB_true c1
  obtain ⟨d1, d2⟩ := pairsB_all c2
  refine ⟨n, rfl, n1, n7, d1, d2, by omega, by omega, c5, c6, ?_, c7⟩
  simp only [ordOK, Bool.and_eq_true, Int.toNat_natCast] at c7
  obtain ⟨m, ys, e1, e2, g⟩ := spB_true c7.2
  have e3 : m = n := by omega
  subst e3
  have e4 : ys = ordL m (turnR L) := by have := congrArg natsOf e2; simpa [natsOf_toN] using this.symm
  exact e4 ▸ g
theorem mem_famK {M : Nat → Bool} {a : Nat} : ∀ {k : Nat}, a ∈ famK M k → M a = true := by
  intro k h
  unfold famK at h
  exact (List.mem_filter.1 h).2
theorem late_order {n : Nat} {L : List (List Int)} (g : SpGood n (ordL n (turnR L))) (c : Nat → Nat → Int) {p : List Int} (hp : p ∈ L) {a b : Nat} (ha : a < n) (hab : a ≠ b) (he : p = [(a : Int), (b : Int)]) :
    ∃ i j, i < j ∧ j < n ∧ (greedN c (ordL n (turnR L)) n).reverse.getD i 0 = a ∧ (greedN c (ordL n (turnR L)) n).reverse.getD j 0 = b := by
  obtain ⟨i, j, h1, h2, h3, h4⟩ := greed_before g c ha hab (fun s hs ht => by
    have hk : keepsB (turnR L) s = true := mem_famK hs
    have hx : [(b : Int), (a : Int)] ∈ turnR L := List.mem_map.2 ⟨p, hp, by rw [he]; rfl⟩
    rw [keepsB, Bool.not_eq_true', List.any_eq_false] at hk
    have := hk _ hx
    simp only [breaks, List.getD_cons_zero, List.getD_cons_succ, Int.toNat_natCast, ht, Bool.true_and, Bool.not_eq_true', Bool.not_eq_true, Bool.not_eq_false'] at this
    cases hb : s.testBit b
    · rw [hb] at this; simp at this
    · rfl)
  have hl : (greedN c (ordL n (turnR L)) n).length = n := greed_len _ _ _ _
  refine ⟨n - 1 - j, n - 1 - i, by omega, by omega, ?_, ?_⟩
  · rw [List.getD_eq_getElem?_getD, List.getElem?_reverse (by omega), hl, show n - 1 - (n - 1 - j) = j by omega, ← List.getD_eq_getElem?_getD]; exact h3
  · rw [List.getD_eq_getElem?_getD, List.getElem?_reverse (by omega), hl, show n - 1 - (n - 1 - i) = i by omega, ← List.getD_eq_getElem?_getD]; exact h4
theorem greed_nodup {n : Nat} {xs : List Nat} (g : SpGood n xs) (c : Nat → Nat → Int) : (greedN c xs n).Nodup := by
  obtain ⟨h, _⟩ := ch_set g n 0 _ (greed_ch g c)
  obtain ⟨t, ht⟩ := Option.isSome_iff_exists.1 h
  exact nodup_toN.1 (setF_some ht).2
theorem lateP_bd {T D : List Int} (hT : ∀ x ∈ T, 1 ≤ x ∧ x ≤ 9) (hD : ∀ x ∈ D, 0 ≤ x ∧ x ≤ 100) : ∀ l : List Nat, (0 ≤ (lateP T D l.reverse).1 ∧ (lateP T D l.reverse).1 ≤ 9 * (l.length : Int)) ∧ (-1000 ≤ (lateP T D l.reverse).2 ∧ (lateP T D l.reverse).2 ≤ 9 * (l.length : Int))
  | [] => by simp [lateP]
  | i :: l => by
    have ih := lateP_bd hT hD l
    rw [List.reverse_cons, lateP_snoc, List.length_cons]
    have h1 : 0 ≤ T.getD i 0 ∧ T.getD i 0 ≤ 9 := by
      rw [List.getD_eq_getElem?_getD]
      cases h : T[i]? with
      | none => simp
      | some x => have := hT x (List.mem_of_getElem? h); simp; omega
    have h2 : 0 ≤ D.getD i 0 ∧ D.getD i 0 ≤ 100 := by
      rw [List.getD_eq_getElem?_getD]
      cases h : D[i]? with
      | none => simp
      | some x => have := hD x (List.mem_of_getElem? h); simp; omega
    unfold lateS
    simp only
    refine ⟨by omega, ?_⟩
    split <;> omega
theorem lateP_bd' {T D : List Int} (hT : ∀ x ∈ T, 1 ≤ x ∧ x ≤ 9) (hD : ∀ x ∈ D, 0 ≤ x ∧ x ≤ 100) (l : List Nat) : (0 ≤ (lateP T D l).1 ∧ (lateP T D l).1 ≤ 9 * (l.length : Int)) ∧ (-1000 ≤ (lateP T D l).2 ∧ (lateP T D l).2 ≤ 9 * (l.length : Int)) := by
  have := lateP_bd hT hD l.reverse
  rwa [List.reverse_reverse, List.length_reverse] at this
end Go.Proofs.Ytnncipcldbopgaa
namespace Go.Proofs.Ytnncipcldbopgaa
set_option linter.unusedSimpArgs false
set_option linter.unusedVariables false
set_option maxHeartbeats 4000000
open Go Go.Eng
attribute [local irreducible] WD RunD PreD Runs CallOK
theorem pairsB_turn {N : Int} {L : List (List Int)} (h2 : ∀ x ∈ L, x.length = 2) (h : pairsB N (turnR L) = true) : pairsB N L = true := by
  obtain ⟨a, b⟩ := pairsB_all h
  refine pairsB_of (by simpa [turnR] using a) fun x hx => ?_
  have := b [x.getD 1 0, x.getD 0 0] (List.mem_map.2 ⟨x, hx, rfl⟩)
  match x, h2 x hx with
  | [c, d], _ =>
    simp only [pairB, List.length_cons, List.length_nil, List.getD_cons_zero, List.getD_cons_succ, Bool.and_eq_true, decide_eq_true_eq, Bool.not_eq_true', decide_eq_false_iff_not] at this ⊢
    exact ⟨trivial, this.2.2.1, this.2.1, fun e => this.2.2.2 e.symm⟩
theorem specLate_ok (h : Hp) (v w u : Value) (L : List (List Int)) (N : Int) (T D : List Int) (hv : IRows h v L) (hw : Ints h w T) (hu : Ints h u D) :
    ∃ v' h', CallOK Try.prog 112 #[.int .i64 N, v, w, u] h v' h' ∧ Adds h h' ∧ ∃ r, v' = .tuple #[r, .bool (lateB N L T D)] ∧ IntsO (Btw h.next h'.next) h' r (lateR N L T D) := by
  have hnt := hv.nt
  have hcs := hv.cs
  have ntw := hw.nt
  have csw := hw.cs
  have ntu := hu.nt
  have csu := hu.cs
  have lL := hv.lenD
  have lT := hw.lenD
  have lD := hu.lenD
  have hLl := hv.len
  cases c1 : sizeB N
  · have hk : givenB N L T D = false := by simp [givenB, c1]
    refine callY_L (args := [.int .i64 N, v, w, u]) 114 _ [.tmp 8, .tmp 9] Try.func112 rfl rfl rfl ?_
    try simp (disch := first | omega | (simp; done) | fail) [wrap64c, if_pos, if_neg, opAnd, opOr, opXor, opDiff, opShr, opBit, hnt, hcs, ntw, csw, ntu, csu, lL, lT, lD, c1]
    refine callG_c (by simp) (by simp) ?ha (spItems_ok _ N) ?_
    (case ha => simp (disch := first | omega | (simp; done) | fail) [wrap64c, if_pos, if_neg, opAnd, opOr, opXor, opDiff, opShr, opBit, hnt, hcs, ntw, csw, ntu, csu, lL, lT, lD, c1])
    try simp (disch := first | omega | (simp; done) | fail) [wrap64c, if_pos, if_neg, opAnd, opOr, opXor, opDiff, opShr, opBit, hnt, hcs, ntw, csw, ntu, csu, lL, lT, lD, c1]
    exact done_ret rfl ⟨(by first | exact aK | exact kK), _, by rw [lateB_no hk]; rfl, by rw [lateR_no (lateB_no hk)]; exact .nil _ _⟩
  obtain ⟨n, rfl, n1, n7⟩ := sizeB_true c1
  by_cases h40 : L.length ≤ 40
  case neg =>
    have h40' : ¬ (L.length : Int) ≤ 40 := by omega
    have hk : givenB n L T D = false := by simp [givenB, c1, pairsB, h40]
    refine callY_L (args := [.int .i64 (n : Int), v, w, u]) 114 _ [.tmp 8, .tmp 9] Try.func112 rfl rfl rfl ?_
    try simp (disch := first | omega | (simp; done) | fail) [wrap64c, if_pos, if_neg, opAnd, opOr, opXor, opDiff, opShr, opBit, hnt, hcs, ntw, csw, ntu, csu, lL, lT, lD, c1, h40']
    refine callG_c (by simp) (by simp) ?ha (spItems_ok _ n) ?_
    (case ha => simp (disch := first | omega | (simp; done) | fail) [wrap64c, if_pos, if_neg, opAnd, opOr, opXor, opDiff, opShr, opBit, hnt, hcs, ntw, csw, ntu, csu, lL, lT, lD, c1, h40'])
    try simp (disch := first | omega | (simp; done) | fail) [wrap64c, if_pos, if_neg, opAnd, opOr, opXor, opDiff, opShr, opBit, hnt, hcs, ntw, csw, ntu, csu, lL, lT, lD, c1, h40']
    exact done_ret rfl ⟨(by first | exact aK | exact kK), _, by rw [lateB_no hk]; rfl, by rw [lateR_no (lateB_no hk)]; exact .nil _ _⟩
  have h40' : (L.length : Int) ≤ 40 := by omega
  by_cases c3 : T.length = n
  case neg =>
    have c3' : ((T.length : Int) != (n : Int)) = true := by simp [c3]
    have hk : givenB n L T D = false := by simp [givenB, c3]
    refine callY_L (args := [.int .i64 (n : Int), v, w, u]) 114 _ [.tmp 8, .tmp 9] Try.func112 rfl rfl rfl ?_
    try simp (disch := first | omega | (simp; done) | fail) [wrap64c, if_pos, if_neg, opAnd, opOr, opXor, opDiff, opShr, opBit, hnt, hcs, ntw, csw, ntu, csu, lL, lT, lD, c1, h40', c3']
    refine callG_c (by simp) (by simp) ?ha (spItems_ok _ n) ?_
    (case ha => simp (disch := first | omega | (simp; done) | fail) [wrap64c, if_pos, if_neg, opAnd, opOr, opXor, opDiff, opShr, opBit, hnt, hcs, ntw, csw, ntu, csu, lL, lT, lD, c1, h40', c3'])
    try simp (disch := first | omega | (simp; done) | fail) [wrap64c, if_pos, if_neg, opAnd, opOr, opXor, opDiff, opShr, opBit, hnt, hcs, ntw, csw, ntu, csu, lL, lT, lD, c1, h40', c3']
    exact done_ret rfl ⟨(by first | exact aK | exact kK), _, by rw [lateB_no hk]; rfl, by rw [lateR_no (lateB_no hk)]; exact .nil _ _⟩
  by_cases c4 : D.length = n
  case neg =>
    have c4' : ((D.length : Int) != (n : Int)) = true := by simp [c4]
    have hk : givenB n L T D = false := by simp [givenB, c4]
    refine callY_L (args := [.int .i64 (n : Int), v, w, u]) 114 _ [.tmp 8, .tmp 9] Try.func112 rfl rfl rfl ?_
    try simp (disch := first | omega | (simp; done) | fail) [wrap64c, if_pos, if_neg, opAnd, opOr, opXor, opDiff, opShr, opBit, hnt, hcs, ntw, csw, ntu, csu, lL, lT, lD, c1, h40', c4', c3]
    refine callG_c (by simp) (by simp) ?ha (spItems_ok _ n) ?_
    (case ha => simp (disch := first | omega | (simp; done) | fail) [wrap64c, if_pos, if_neg, opAnd, opOr, opXor, opDiff, opShr, opBit, hnt, hcs, ntw, csw, ntu, csu, lL, lT, lD, c1, h40', c4'])
    try simp (disch := first | omega | (simp; done) | fail) [wrap64c, if_pos, if_neg, opAnd, opOr, opXor, opDiff, opShr, opBit, hnt, hcs, ntw, csw, ntu, csu, lL, lT, lD, c1, h40', c4', c3]
    exact done_ret rfl ⟨(by first | exact aK | exact kK), _, by rw [lateB_no hk]; rfl, by rw [lateR_no (lateB_no hk)]; exact .nil _ _⟩
  have k1 := l1All_ok h w T 1 9 hw
  have k2 := l1All_ok h u D 0 100 hu
  by_cases hT : ∀ x ∈ T, 1 ≤ x ∧ x ≤ 9
  case neg =>
    rw [decide_eq_false hT] at k1
    have hk : givenB n L T D = false := by rw [givenB, decide_eq_false hT]; simp
    refine callY_L (args := [.int .i64 (n : Int), v, w, u]) 114 _ [.tmp 8, .tmp 9] Try.func112 rfl rfl rfl ?_
    try simp (disch := first | omega | (simp; done) | fail) [wrap64c, if_pos, if_neg, opAnd, opOr, opXor, opDiff, opShr, opBit, hnt, hcs, ntw, csw, ntu, csu, lL, lT, lD, c1, h40', c3, c4]
    refine callG_c (by simp) (by simp) ?ha (spItems_ok _ n) ?_
    (case ha => simp (disch := first | omega | (simp; done) | fail) [wrap64c, if_pos, if_neg, opAnd, opOr, opXor, opDiff, opShr, opBit, hnt, hcs, ntw, csw, ntu, csu, lL, lT, lD, c1, h40'])
    try simp (disch := first | omega | (simp; done) | fail) [wrap64c, if_pos, if_neg, opAnd, opOr, opXor, opDiff, opShr, opBit, hnt, hcs, ntw, csw, ntu, csu, lL, lT, lD, c1, h40', c3, c4]
    refine callG_c (by simp) (by simp) ?ha (k1) ?_
    (case ha => simp (disch := first | omega | (simp; done) | fail) [wrap64c, if_pos, if_neg, opAnd, opOr, opXor, opDiff, opShr, opBit, hnt, hcs, ntw, csw, ntu, csu, lL, lT, lD, c1, h40', c3, c4])
    try simp (disch := first | omega | (simp; done) | fail) [wrap64c, if_pos, if_neg, opAnd, opOr, opXor, opDiff, opShr, opBit, hnt, hcs, ntw, csw, ntu, csu, lL, lT, lD, c1, h40', c3, c4]
    exact done_ret rfl ⟨(by first | exact aK | exact kK), _, by rw [lateB_no hk]; rfl, by rw [lateR_no (lateB_no hk)]; exact .nil _ _⟩
  rw [decide_eq_true hT] at k1
  by_cases hD : ∀ x ∈ D, 0 ≤ x ∧ x ≤ 100
  case neg =>
    rw [decide_eq_false hD] at k2
    have hk : givenB n L T D = false := by rw [givenB, decide_eq_false hD]; simp
    refine callY_L (args := [.int .i64 (n : Int), v, w, u]) 114 _ [.tmp 8, .tmp 9] Try.func112 rfl rfl rfl ?_
    try simp (disch := first | omega | (simp; done) | fail) [wrap64c, if_pos, if_neg, opAnd, opOr, opXor, opDiff, opShr, opBit, hnt, hcs, ntw, csw, ntu, csu, lL, lT, lD, c1, h40', c3, c4]
    refine callG_c (by simp) (by simp) ?ha (spItems_ok _ n) ?_
    (case ha => simp (disch := first | omega | (simp; done) | fail) [wrap64c, if_pos, if_neg, opAnd, opOr, opXor, opDiff, opShr, opBit, hnt, hcs, ntw, csw, ntu, csu, lL, lT, lD, c1, h40'])
    try simp (disch := first | omega | (simp; done) | fail) [wrap64c, if_pos, if_neg, opAnd, opOr, opXor, opDiff, opShr, opBit, hnt, hcs, ntw, csw, ntu, csu, lL, lT, lD, c1, h40', c3, c4]
    refine callG_c (by simp) (by simp) ?ha (k1) ?_
    (case ha => simp (disch := first | omega | (simp; done) | fail) [wrap64c, if_pos, if_neg, opAnd, opOr, opXor, opDiff, opShr, opBit, hnt, hcs, ntw, csw, ntu, csu, lL, lT, lD, c1, h40', c3, c4])
    try simp (disch := first | omega | (simp; done) | fail) [wrap64c, if_pos, if_neg, opAnd, opOr, opXor, opDiff, opShr, opBit, hnt, hcs, ntw, csw, ntu, csu, lL, lT, lD, c1, h40', c3, c4]
    refine callG_c (by simp) (by simp) ?ha (k2) ?_
    (case ha => simp (disch := first | omega | (simp; done) | fail) [wrap64c, if_pos, if_neg, opAnd, opOr, opXor, opDiff, opShr, opBit, hnt, hcs, ntw, csw, ntu, csu, lL, lT, lD, c1, h40', c3, c4])
    try simp (disch := first | omega | (simp; done) | fail) [wrap64c, if_pos, if_neg, opAnd, opOr, opXor, opDiff, opShr, opBit, hnt, hcs, ntw, csw, ntu, csu, lL, lT, lD, c1, h40', c3, c4]
    exact done_ret rfl ⟨(by first | exact aK | exact kK), _, by rw [lateB_no hk]; rfl, by rw [lateR_no (lateB_no hk)]; exact .nil _ _⟩
  rw [decide_eq_true hD] at k2
  have hz3 : zarr #[Value.int .i64 0, Value.int .i64 0, Value.int .i64 0] 3 = #[Value.int .i64 0, Value.int .i64 0, Value.int .i64 0] := zarr3_3 _ _ _
  refine callY_L (args := [.int .i64 (n : Int), v, w, u]) 114 _ [.tmp 8, .tmp 9] Try.func112 rfl rfl rfl ?_
  try simp (disch := first | omega | (simp; done) | fail) [wrap64c, if_pos, if_neg, opAnd, opOr, opXor, opDiff, opShr, opBit, hnt, hcs, ntw, csw, ntu, csu, lL, lT, lD, c1, h40', hz3, c3, c4]
  refine callG_c (by simp) (by simp) ?ha (spItems_ok _ n) ?_
  (case ha => simp (disch := first | omega | (simp; done) | fail) [wrap64c, if_pos, if_neg, opAnd, opOr, opXor, opDiff, opShr, opBit, hnt, hcs, ntw, csw, ntu, csu, lL, lT, lD, c1, h40', hz3])
  try simp (disch := first | omega | (simp; done) | fail) [wrap64c, if_pos, if_neg, opAnd, opOr, opXor, opDiff, opShr, opBit, hnt, hcs, ntw, csw, ntu, csu, lL, lT, lD, c1, h40', hz3, c3, c4]
  refine callG_c (by simp) (by simp) ?ha (k1) ?_
  (case ha => simp (disch := first | omega | (simp; done) | fail) [wrap64c, if_pos, if_neg, opAnd, opOr, opXor, opDiff, opShr, opBit, hnt, hcs, ntw, csw, ntu, csu, lL, lT, lD, c1, h40', hz3, c3, c4])
  try simp (disch := first | omega | (simp; done) | fail) [wrap64c, if_pos, if_neg, opAnd, opOr, opXor, opDiff, opShr, opBit, hnt, hcs, ntw, csw, ntu, csu, lL, lT, lD, c1, h40', hz3, c3, c4]
  refine callG_c (by simp) (by simp) ?ha (k2) ?_
  (case ha => simp (disch := first | omega | (simp; done) | fail) [wrap64c, if_pos, if_neg, opAnd, opOr, opXor, opDiff, opShr, opBit, hnt, hcs, ntw, csw, ntu, csu, lL, lT, lD, c1, h40', hz3, c3, c4])
  try simp (disch := first | omega | (simp; done) | fail) [wrap64c, if_pos, if_neg, opAnd, opOr, opXor, opDiff, opShr, opBit, hnt, hcs, ntw, csw, ntu, csu, lL, lT, lD, c1, h40', hz3, c3, c4]
  refine WD_loopC [0, 2, 3, 51, 52] (fun m tm h' => ∃ i t, m = L.length - i ∧ tm 10 = t ∧ tm 53 = .int .i64 (i : Int) ∧ (i ≤ L.length) ∧ (Adds h h') ∧ (IRowsA h.next h' t (turnR (L.take i))) ∧ (∀ k (hk : k < L.length), k < i → L[k].length = 2)) _ ⟨0, .slice none 0 0, rfl, (by simp (disch := first | omega | (simp; done) | fail) [wrap64c, if_pos, if_neg, opAnd, opOr, opXor, opDiff, opShr, opBit, hnt, hcs, ntw, csw, ntu, csu, lL, lT, lD, c1, h40', hz3]), (by simp (disch := first | omega | (simp; done) | fail) [wrap64c, if_pos, if_neg, opAnd, opOr, opXor, opDiff, opShr, opBit, hnt, hcs, ntw, csw, ntu, csu, lL, lT, lD, c1, h40', hz3]), (by first | omega | assumption | (simp (disch := first | omega | (simp; done) | fail) [wrap64c, if_pos, if_neg, opAnd, opOr, opXor, opDiff, opShr, opBit, hnt, hcs, ntw, csw, ntu, csu, lL, lT, lD, c1, h40', hz3] <;> omega)), (by first | exact aK | exact kK), (.nil _ _), (fun k hk h0 => by omega)⟩ ?_
  rintro m tm h' hFr ⟨i, t, rfl, e10, e53, hi, ha2, hr, h2⟩
  simp only [FrameL] at hFr
  obtain ⟨f0_0, f2_0, f3_0, f51_0, f52_0, -⟩ := hFr
  try simp (disch := first | omega | (simp; done) | fail) [wrap64c, if_pos, if_neg, opAnd, opOr, opXor, opDiff, opShr, opBit, hnt, hcs, ntw, csw, ntu, csu, lL, lT, lD, c1, h40', hz3] at f0_0 f2_0 f3_0 f51_0 f52_0
  have e0 := f0_0
  have e2 := f2_0
  have e3 := f3_0
  have e51 := f51_0
  have e52 := f52_0
  rename Hp => hp
  have hv2 := hv.keep ha2.1
  have hm2 := ha2.1.1
  by_cases hlt2 : i < L.length
  · obtain ⟨o_x, i_x, c_x, cs_x, own_x, ex_x, es_x, us_x, q_x, b_x, g_x, l_x, r_x, R_x⟩ := hv2.open ((by omega))
    have z_x : ∀ h2 : i_x < cs_x.length, cs_x[i_x] = _ := fun h2 => r_x 0 ((by omega)) h2
    have hR := R_x i hlt2
    have hRl := hR.lenD
    by_cases hl2 : L[i].length = 2
    case neg =>
      have hl2' : ((L[i].length : Int) != 2) = true := by simp; omega
      try simp (disch := first | omega | (simp; done) | fail) [wrap64c, if_pos, if_neg, opAnd, opOr, opXor, opDiff, opShr, opBit, hnt, hcs, ntw, csw, ntu, csu, lL, lT, lD, c1, h40', hz3, e0, e2, e3, e10, e51, e52, e53, hlt2, q_x, g_x, l_x, r_x, z_x, hRl, hl2', c3, c4]
      have hk : givenB n L T D = false := by
        cases hp2 : pairsB n L
        · simp [givenB, hp2]
        · have := (pairsB_all hp2).2 _ (List.getElem_mem hlt2)
          simp [pairB, hl2] at this
      exact done_ret rfl ⟨(by first | exact aK | exact kK), _, by rw [lateB_no hk]; rfl, by rw [lateR_no (lateB_no hk)]; exact .nil _ _⟩
    obtain ⟨c, d, hcd⟩ : ∃ c d, L[i] = [c, d] := by
      match L[i], hl2 with
      | [c, d], _ => exact ⟨c, d, rfl⟩
    rw [hcd] at hR hRl
    obtain ⟨o_y, i_y, c_y, cs_y, own_y, ex_y, es_y, q_y, b_y, g_y, l_y, r_y⟩ := hR.open ((by simp))
    have z_y : ∀ h2 : i_y < cs_y.length, cs_y[i_y] = _ := fun h2 => r_y 0 ((by simp)) h2
    have l2_y : i_y + 1 < cs_y.length := by have := l_y; simp at this; omega
    have l3_y : i_y < cs_y.length := by omega
    have z2_y := r_y 1 (by simp)
    have htl : (turnR (L.take i)).length ≤ i := by simp [turnR]; omega
    have hts := turnR_succ L hlt2
    simp only [hcd, List.getD_cons_zero, List.getD_cons_succ] at hts
    have htn := hr.nt
    try simp (disch := first | omega | (simp; done) | fail) [wrap64c, if_pos, if_neg, opAnd, opOr, opXor, opDiff, opShr, opBit, hnt, hcs, ntw, csw, ntu, csu, lL, lT, lD, c1, h40', hz3, e0, e2, e3, e10, e51, e52, e53, hlt2, q_x, g_x, l_x, r_x, z_x, hRl, q_y, g_y, l_y, r_y, z_y, l2_y, l3_y, z2_y, htn, c3, c4]
    refine WD_drawC 9 rfl (by kernel_rfl) ?_
    try simp (disch := first | omega | (simp; done) | fail) [wrap64c, if_pos, if_neg, opAnd, opOr, opXor, opDiff, opShr, opBit, hnt, hcs, ntw, csw, ntu, csu, lL, lT, lD, c1, h40', hz3, e0, e2, e3, e10, e51, e52, e53, hlt2, q_x, g_x, l_x, r_x, z_x, hRl, q_y, g_y, l_y, r_y, z_y, l2_y, l3_y, z2_y, htn, c3, c4]
    obtain ⟨t2, h3, hap, hr3, ha3, hn3, _⟩ := appP hr d c (by omega) (by omega) ha2 (Nat.le_refl _)
    try simp (disch := first | omega | (simp; done) | fail) [wrap64c, if_pos, if_neg, opAnd, opOr, opXor, opDiff, opShr, opBit, hnt, hcs, ntw, csw, ntu, csu, lL, lT, lD, c1, h40', hz3, e0, e2, e3, e10, e51, e52, e53, hlt2, q_x, g_x, l_x, r_x, z_x, hRl, q_y, g_y, l_y, r_y, z_y, l2_y, l3_y, z2_y, htn, hap, c3, c4]
    refine loopK_next _ ?hm ?hf ⟨i + 1, t2, rfl, (by simp (disch := first | omega | (simp; done) | fail) [wrap64c, if_pos, if_neg, opAnd, opOr, opXor, opDiff, opShr, opBit, hnt, hcs, ntw, csw, ntu, csu, lL, lT, lD, c1, h40', hz3, e0, e2, e3, e10, e51, e52, e53, hlt2, q_x, g_x, l_x, r_x, z_x, hRl, q_y, g_y, l_y, r_y, z_y, l2_y, l3_y, z2_y, htn] <;> omega), (by simp (disch := first | omega | (simp; done) | fail) [wrap64c, if_pos, if_neg, opAnd, opOr, opXor, opDiff, opShr, opBit, hnt, hcs, ntw, csw, ntu, csu, lL, lT, lD, c1, h40', hz3, e0, e2, e3, e10, e51, e52, e53, hlt2, q_x, g_x, l_x, r_x, z_x, hRl, q_y, g_y, l_y, r_y, z_y, l2_y, l3_y, z2_y, htn] <;> omega), (by first | omega | assumption | (simp (disch := first | omega | (simp; done) | fail) [wrap64c, if_pos, if_neg, opAnd, opOr, opXor, opDiff, opShr, opBit, hnt, hcs, ntw, csw, ntu, csu, lL, lT, lD, c1, h40', hz3, e0, e2, e3, e10, e51, e52, e53, hlt2, q_x, g_x, l_x, r_x, z_x, hRl, q_y, g_y, l_y, r_y, z_y, l2_y, l3_y, z2_y, htn] <;> omega)), ha3, (by rw [hts]; exact hr3), ?c_h2⟩
    (case hm => first | omega | (simp; omega))
    (case hf => simp [FrameL, hnt, hcs, ntw, csw, ntu, csu, lL, lT, lD, c1, h40', hz3, e0, e2, e3, e10, e51, e52, e53, hlt2, q_x, g_x, l_x, r_x, z_x, hRl, q_y, g_y, l_y, r_y, z_y, l2_y, l3_y, z2_y, htn, f0_0, f2_0, f3_0, f51_0, f52_0])
    case c_h2 =>
      exact (fun k hk h0 => by
        by_cases e : k = i
        · subst e; exact hl2
        · exact h2 k hk (by omega))
  have hie : i = L.length := by omega
  subst hie
  have hL2 : ∀ x ∈ L, x.length = 2 := fun x hx' => by
    obtain ⟨k, hk, rfl⟩ := List.getElem_of_mem hx'
    exact h2 k hk hk
  rw [List.take_length] at hr
  have hrows := (hr.own (by simp [turnR]; omega)).rows
  have hvt := hr.nt
  have hct := hrows.cs
  obtain ⟨w5, h5, hc5, ha5, sp, rfl, hsp⟩ := specOrder_ok hp t (turnR L) n hrows
  have A5 := ha2.trans ha5
  have hm5 := ha5.1.1
  have hmA := A5.1.1
  obtain ⟨b5, rfl, hb5⟩ := hsp
  have ntb := hb5.nt
  have csb := hb5.cs
  have hlx := hb5.ints.len
  try simp (disch := first | omega | (simp; done) | fail) [wrap64c, if_pos, if_neg, opAnd, opOr, opXor, opDiff, opShr, opBit, hnt, hcs, ntw, csw, ntu, csu, lL, lT, lD, c1, h40', hz3, e0, e2, e3, e10, e51, e52, e53, hlt2, hvt, hct, ntb, csb, c3, c4]
  refine callG_c (by simp) (by simp) ?ha (hc5) ?_
  (case ha => simp (disch := first | omega | (simp; done) | fail) [wrap64c, if_pos, if_neg, opAnd, opOr, opXor, opDiff, opShr, opBit, hnt, hcs, ntw, csw, ntu, csu, lL, lT, lD, c1, h40', hz3, e0, e2, e3, e10, e51, e52, e53, hlt2, hvt, hct, ntb, csb, c3, c4])
  cases hok : ordOK n (turnR L)
  · have hk : lateB n L T D = false := by rw [lateB, hok]; simp
    try simp (disch := first | omega | (simp; done) | fail) [wrap64c, if_pos, if_neg, opAnd, opOr, opXor, opDiff, opShr, opBit, hnt, hcs, ntw, csw, ntu, csu, lL, lT, lD, c1, h40', hz3, e0, e2, e3, e10, e51, e52, e53, hlt2, hvt, hct, ntb, csb, hok, c3, c4]
    exact done_ret rfl ⟨(by first | exact aK | exact kK), _, by rw [hk]; rfl, by rw [lateR_no hk]; exact .nil _ _⟩
  have hpt : pairsB n (turnR L) = true := by
    have := hok
    simp only [ordOK, Bool.and_eq_true] at this
    exact this.1.2
  have hgv : givenB n L T D = true := by
    simp only [givenB, c1, pairsB_turn hL2 hpt, c3, c4, Bool.true_and, decide_true, Bool.and_eq_true, decide_eq_true_eq]
    exact ⟨hT, hD⟩
  have hk : lateB n L T D = true := by rw [lateB, hok, hgv]; rfl
  have hOX : ordX n (turnR L) = toN (ordL n (turnR L)) := by unfold ordX; rw [if_pos hok]; simp
  have hON : ordN n (turnR L) = (n : Int) := by unfold ordN; rw [if_pos hok]
  have hsb : spB (n : Int) (toN (ordL n (turnR L))) = true := by
    have := hok
    simp only [ordOK, Bool.and_eq_true] at this
    simpa using this.2
  obtain ⟨m, ys, y1, y2, g⟩ := spB_true hsb
  have y3 : n = m := by omega
  subst y3
  have y4 : ys = ordL n (turnR L) := by have := congrArg natsOf y2; simpa [natsOf_toN] using this.symm
  subst y4
  rw [hOX] at hb5
  have gj := lateJ_ok n7 c3 c4 hT hD
  try simp (disch := first | omega | (simp; done) | fail) [wrap64c, if_pos, if_neg, opAnd, opOr, opXor, opDiff, opShr, opBit, hnt, hcs, ntw, csw, ntu, csu, lL, lT, lD, c1, h40', hz3, e0, e2, e3, e10, e51, e52, e53, hlt2, hvt, hct, ntb, csb, hok, c3, c4, hON, putCells]
  refine WD_loopC [0, 3, 13, 79, 80] (fun m tm h' => ∃ j q, m = n - j ∧ tm 15 = q ∧ tm 81 = .int .i64 (j : Int) ∧ (j ≤ n) ∧ (Adds h5 h') ∧ (GL 3 jobR (h5.next + 1) h' q (lateJ T D j)) ∧ (h'.get h5.next = .cells [.int .i64 n, b5] true true 1) ∧ (h5.next + 1 ≤ h'.next)) _ ⟨0, .slice none 0 0, rfl, (by simp (disch := first | omega | (simp; done) | fail) [wrap64c, if_pos, if_neg, opAnd, opOr, opXor, opDiff, opShr, opBit, hnt, hcs, ntw, csw, ntu, csu, lL, lT, lD, c1, h40', hz3, e0, e2, e3, e10, e51, e52, e53, hlt2, hvt, hct, ntb, csb, hok]), (by simp (disch := first | omega | (simp; done) | fail) [wrap64c, if_pos, if_neg, opAnd, opOr, opXor, opDiff, opShr, opBit, hnt, hcs, ntw, csw, ntu, csu, lL, lT, lD, c1, h40', hz3, e0, e2, e3, e10, e51, e52, e53, hlt2, hvt, hct, ntb, csb, hok]), (by first | omega | assumption | (simp (disch := first | omega | (simp; done) | fail) [wrap64c, if_pos, if_neg, opAnd, opOr, opXor, opDiff, opShr, opBit, hnt, hcs, ntw, csw, ntu, csu, lL, lT, lD, c1, h40', hz3, e0, e2, e3, e10, e51, e52, e53, hlt2, hvt, hct, ntb, csb, hok] <;> omega)), (by first | exact aK | exact kK), (.nil _ _), (by simp [putCells]), (by simp)⟩ ?_
  rintro m tm h' hFr ⟨j, q, rfl, e15, e81, hj, ha, hg, gb, hnn⟩
  simp only [FrameL] at hFr
  obtain ⟨f0_1, f3_1, f13_1, f79_1, f80_1, -⟩ := hFr
  try simp (disch := first | omega | (simp; done) | fail) [wrap64c, if_pos, if_neg, opAnd, opOr, opXor, opDiff, opShr, opBit, hnt, hcs, ntw, csw, ntu, csu, lL, lT, lD, c1, h40', hz3, e0, e2, e3, e10, e51, e52, e53, hlt2, hvt, hct, ntb, csb, hok] at f0_1 f3_1 f13_1 f79_1 f80_1
  have e0 := f0_1
  have e3 := f3_1
  have e13 := f13_1
  have e79 := f79_1
  have e80 := f80_1
  rename Hp => hq
  have hw3 := hw.keep (A5.trans ha).1
  have hu3 := hu.keep (A5.trans ha).1
  by_cases hlt : j < n
  · have hjT : j < T.length := by omega
    have hjD : j < D.length := by omega
    obtain ⟨o_x, i_x, c_x, cs_x, own_x, ex_x, es_x, q_x, b_x, g_x, l_x, r_x⟩ := hw3.open ((by omega))
    have z_x : ∀ h2 : i_x < cs_x.length, cs_x[i_x] = _ := fun h2 => r_x 0 ((by omega)) h2
    obtain ⟨o_y, i_y, c_y, cs_y, own_y, ex_y, es_y, q_y, b_y, g_y, l_y, r_y⟩ := hu3.open ((by omega))
    have z_y : ∀ h2 : i_y < cs_y.length, cs_y[i_y] = _ := fun h2 => r_y 0 ((by omega)) h2
    have htj := hT _ (List.getElem_mem hjT)
    have hdj := hD _ (List.getElem_mem hjD)
    have ntq := hg.nt
    try simp (disch := first | omega | (simp; done) | fail) [wrap64c, if_pos, if_neg, opAnd, opOr, opXor, opDiff, opShr, opBit, hnt, hcs, ntw, csw, ntu, csu, lL, lT, lD, c1, h40', hz3, e0, e2, e3, e10, e51, e52, e53, hlt2, hvt, hct, ntb, csb, hok, e13, e15, e79, e80, e81, gb, hlt, hjT, hjD, q_x, g_x, l_x, r_x, z_x, q_y, g_y, l_y, r_y, z_y, ntq, c3, c4]
    obtain ⟨q2, h6, hap, hg2, ha6, hn6, hs6⟩ := appJ hg (⟨T[j], 1, -D[j]⟩ : Job) (by simp; omega) hnn ha (by omega)
    try simp (disch := first | omega | (simp; done) | fail) [wrap64c, if_pos, if_neg, opAnd, opOr, opXor, opDiff, opShr, opBit, hnt, hcs, ntw, csw, ntu, csu, lL, lT, lD, c1, h40', hz3, e0, e2, e3, e10, e51, e52, e53, hlt2, hvt, hct, ntb, csb, hok, e13, e15, e79, e80, e81, gb, hlt, hjT, hjD, q_x, g_x, l_x, r_x, z_x, q_y, g_y, l_y, r_y, z_y, ntq, hap, c3, c4]
    refine loopK_next _ ?hm ?hf ⟨j + 1, q2, rfl, (by simp (disch := first | omega | (simp; done) | fail) [wrap64c, if_pos, if_neg, opAnd, opOr, opXor, opDiff, opShr, opBit, hnt, hcs, ntw, csw, ntu, csu, lL, lT, lD, c1, h40', hz3, e0, e2, e3, e10, e51, e52, e53, hlt2, hvt, hct, ntb, csb, hok, e13, e15, e79, e80, e81, gb, hlt, hjT, hjD, q_x, g_x, l_x, r_x, z_x, q_y, g_y, l_y, r_y, z_y, ntq] <;> omega), (by simp (disch := first | omega | (simp; done) | fail) [wrap64c, if_pos, if_neg, opAnd, opOr, opXor, opDiff, opShr, opBit, hnt, hcs, ntw, csw, ntu, csu, lL, lT, lD, c1, h40', hz3, e0, e2, e3, e10, e51, e52, e53, hlt2, hvt, hct, ntb, csb, hok, e13, e15, e79, e80, e81, gb, hlt, hjT, hjD, q_x, g_x, l_x, r_x, z_x, q_y, g_y, l_y, r_y, z_y, ntq] <;> omega), (by first | omega | assumption | (simp (disch := first | omega | (simp; done) | fail) [wrap64c, if_pos, if_neg, opAnd, opOr, opXor, opDiff, opShr, opBit, hnt, hcs, ntw, csw, ntu, csu, lL, lT, lD, c1, h40', hz3, e0, e2, e3, e10, e51, e52, e53, hlt2, hvt, hct, ntb, csb, hok, e13, e15, e79, e80, e81, gb, hlt, hjT, hjD, q_x, g_x, l_x, r_x, z_x, q_y, g_y, l_y, r_y, z_y, ntq] <;> omega)), ha6, (by rw [lateJ_succ]; simpa [List.getD_eq_getElem?_getD, hjT, hjD] using hg2), (by rw [hs6 _ (by omega) (by omega)]; exact gb), (by first | omega | assumption | (simp (disch := first | omega | (simp; done) | fail) [wrap64c, if_pos, if_neg, opAnd, opOr, opXor, opDiff, opShr, opBit, hnt, hcs, ntw, csw, ntu, csu, lL, lT, lD, c1, h40', hz3, e0, e2, e3, e10, e51, e52, e53, hlt2, hvt, hct, ntb, csb, hok, e13, e15, e79, e80, e81, gb, hlt, hjT, hjD, q_x, g_x, l_x, r_x, z_x, q_y, g_y, l_y, r_y, z_y, ntq] <;> omega))⟩
    (case hm => first | omega | (simp; omega))
    (case hf => simp [FrameL, hnt, hcs, ntw, csw, ntu, csu, lL, lT, lD, c1, h40', hz3, e0, e2, e3, e10, e51, e52, e53, hlt2, hvt, hct, ntb, csb, hok, e13, e15, e79, e80, e81, gb, hlt, hjT, hjD, q_x, g_x, l_x, r_x, z_x, q_y, g_y, l_y, r_y, z_y, ntq, f0_1, f3_1, f13_1, f79_1, f80_1])
  have hje : j = n := by omega
  subst hje
  have hjobs := jobs_of hg (by simp; omega)
  have ntq := hg.nt
  have hm6 := ha.1.1
  obtain ⟨u7, h7, hc7, ha7, hi7⟩ := grGreedy_ok hq (.agg #[.int .i64 (j : Int), b5]) q j (ordL j (turnR L)) (lateJ T D j) (.mk (hb5.keep ha.1).ints) hjobs g gj (by simp)
  have hm7 := ha7.1.1
  have nt7 := hi7.nt
  have hgl := greedN_len (costN (lateJ T D j)) (ordL j (turnR L)) j
  have hR : lateR j L T D = toN (greedN (costN (lateJ T D j)) (ordL j (turnR L)) j).reverse := by rw [lateR, if_pos hk]; simp
  obtain ⟨W, hW⟩ : ∃ W, W = greedN (costN (lateJ T D j)) (ordL j (turnR L)) j := ⟨_, rfl⟩
  rw [← hW] at hgl hi7 hR
  have hgt := toN_get W
  have hln := toN_length W
  try simp (disch := first | omega | (simp; done) | fail) [wrap64c, if_pos, if_neg, opAnd, opOr, opXor, opDiff, opShr, opBit, hnt, hcs, ntw, csw, ntu, csu, lL, lT, lD, c1, h40', hz3, e0, e2, e3, e10, e51, e52, e53, hlt2, hvt, hct, ntb, csb, hok, e13, e15, e79, e80, e81, gb, hlt, ntq, nt7, hgt, c3, c4]
  refine callG_c (by simp) (by simp) ?ha (hc7) ?_
  (case ha => simp (disch := first | omega | (simp; done) | fail) [wrap64c, if_pos, if_neg, opAnd, opOr, opXor, opDiff, opShr, opBit, hnt, hcs, ntw, csw, ntu, csu, lL, lT, lD, c1, h40', hz3, e0, e2, e3, e10, e51, e52, e53, hlt2, hvt, hct, ntb, csb, hok, e13, e15, e79, e80, e81, gb, hlt, ntq, nt7, hgt, c3, c4])
  try simp (disch := first | omega | (simp; done) | fail) [wrap64c, if_pos, if_neg, opAnd, opOr, opXor, opDiff, opShr, opBit, hnt, hcs, ntw, csw, ntu, csu, lL, lT, lD, c1, h40', hz3, e0, e2, e3, e10, e51, e52, e53, hlt2, hvt, hct, ntb, csb, hok, e13, e15, e79, e80, e81, gb, hlt, ntq, nt7, hgt, c3, c4]
  refine WD_loopC [18] (fun m tm h' => ∃ k r, m = j - k ∧ tm 19 = r ∧ tm 20 = .int .i64 ((j : Int) - 1 - k) ∧ (k ≤ j) ∧ (Adds h7 h') ∧ (IntsA h7.next h' r (toN (W.reverse.take k)))) _ ⟨0, .slice none 0 0, rfl, (by simp (disch := first | omega | (simp; done) | fail) [wrap64c, if_pos, if_neg, opAnd, opOr, opXor, opDiff, opShr, opBit, hnt, hcs, ntw, csw, ntu, csu, lL, lT, lD, c1, h40', hz3, e0, e2, e3, e10, e51, e52, e53, hlt2, hvt, hct, ntb, csb, hok, e13, e15, e79, e80, e81, gb, hlt, ntq, nt7, hgt]), (by simp (disch := first | omega | (simp; done) | fail) [wrap64c, if_pos, if_neg, opAnd, opOr, opXor, opDiff, opShr, opBit, hnt, hcs, ntw, csw, ntu, csu, lL, lT, lD, c1, h40', hz3, e0, e2, e3, e10, e51, e52, e53, hlt2, hvt, hct, ntb, csb, hok, e13, e15, e79, e80, e81, gb, hlt, ntq, nt7, hgt]), (by first | omega | assumption | (simp (disch := first | omega | (simp; done) | fail) [wrap64c, if_pos, if_neg, opAnd, opOr, opXor, opDiff, opShr, opBit, hnt, hcs, ntw, csw, ntu, csu, lL, lT, lD, c1, h40', hz3, e0, e2, e3, e10, e51, e52, e53, hlt2, hvt, hct, ntb, csb, hok, e13, e15, e79, e80, e81, gb, hlt, ntq, nt7, hgt] <;> omega)), (by first | exact aK | exact kK), (.nil _ _)⟩ ?_
  rintro m tm h' hFr ⟨k, r, rfl, e19, e20, hkj, ha8, hr8⟩
  simp only [FrameL] at hFr
  obtain ⟨f18_2, -⟩ := hFr
  try simp (disch := first | omega | (simp; done) | fail) [wrap64c, if_pos, if_neg, opAnd, opOr, opXor, opDiff, opShr, opBit, hnt, hcs, ntw, csw, ntu, csu, lL, lT, lD, c1, h40', hz3, e0, e2, e3, e10, e51, e52, e53, hlt2, hvt, hct, ntb, csb, hok, e13, e15, e79, e80, e81, gb, hlt, ntq, nt7, hgt] at f18_2
  have e18 := f18_2
  rename Hp => h8
  have ntr := hr8.nt
  by_cases hlk : k < j
  · have hkx : ((j : Int) - 1 - k) = ((j - 1 - k : Nat) : Int) := by omega
    have hkl : j - 1 - k < W.length := by omega
    have hn8 := ha8.1.1
    obtain ⟨o_x, i_x, c_x, cs_x, own_x, ex_x, es_x, q_x, b_x, g_x, l_x, r_x⟩ := ((hi7.ints).keep ha8.1).open ((by omega))
    have z_x : ∀ h2 : i_x < cs_x.length, cs_x[i_x] = _ := fun h2 => r_x 0 ((by omega)) h2
    try simp (disch := first | omega | (simp; done) | fail) [wrap64c, if_pos, if_neg, opAnd, opOr, opXor, opDiff, opShr, opBit, hnt, hcs, ntw, csw, ntu, csu, lL, lT, lD, c1, h40', hz3, e0, e2, e3, e10, e51, e52, e53, hlt2, hvt, hct, ntb, csb, hok, e13, e15, e79, e80, e81, gb, hlt, ntq, nt7, hgt, e18, e19, e20, ntr, hkx, q_x, g_x, l_x, r_x, z_x]
    obtain ⟨r2, h9, hap, hr9, ha9, hn9, _⟩ := appI hr8 ((W[j - 1 - k] : Nat) : Int) (by simp; omega) (by omega) ha8 (Nat.le_refl _)
    have htk : W.reverse.take (k + 1) = W.reverse.take k ++ [W[j - 1 - k]] := by
      rw [List.take_succ_eq_append_getElem (by simp; omega), List.getElem_reverse]
      simp only [hgl]
    try simp (disch := first | omega | (simp; done) | fail) [wrap64c, if_pos, if_neg, opAnd, opOr, opXor, opDiff, opShr, opBit, hnt, hcs, ntw, csw, ntu, csu, lL, lT, lD, c1, h40', hz3, e0, e2, e3, e10, e51, e52, e53, hlt2, hvt, hct, ntb, csb, hok, e13, e15, e79, e80, e81, gb, hlt, ntq, nt7, hgt, e18, e19, e20, ntr, hkx, q_x, g_x, l_x, r_x, z_x, hap]
    refine loopK_next _ ?hm ?hf ⟨k + 1, r2, rfl, (by simp (disch := first | omega | (simp; done) | fail) [wrap64c, if_pos, if_neg, opAnd, opOr, opXor, opDiff, opShr, opBit, hnt, hcs, ntw, csw, ntu, csu, lL, lT, lD, c1, h40', hz3, e0, e2, e3, e10, e51, e52, e53, hlt2, hvt, hct, ntb, csb, hok, e13, e15, e79, e80, e81, gb, hlt, ntq, nt7, hgt, e18, e19, e20, ntr, hkx, q_x, g_x, l_x, r_x, z_x] <;> omega), (by simp (disch := first | omega | (simp; done) | fail) [wrap64c, if_pos, if_neg, opAnd, opOr, opXor, opDiff, opShr, opBit, hnt, hcs, ntw, csw, ntu, csu, lL, lT, lD, c1, h40', hz3, e0, e2, e3, e10, e51, e52, e53, hlt2, hvt, hct, ntb, csb, hok, e13, e15, e79, e80, e81, gb, hlt, ntq, nt7, hgt, e18, e19, e20, ntr, hkx, q_x, g_x, l_x, r_x, z_x] <;> omega), (by first | omega | assumption | (simp (disch := first | omega | (simp; done) | fail) [wrap64c, if_pos, if_neg, opAnd, opOr, opXor, opDiff, opShr, opBit, hnt, hcs, ntw, csw, ntu, csu, lL, lT, lD, c1, h40', hz3, e0, e2, e3, e10, e51, e52, e53, hlt2, hvt, hct, ntb, csb, hok, e13, e15, e79, e80, e81, gb, hlt, ntq, nt7, hgt, e18, e19, e20, ntr, hkx, q_x, g_x, l_x, r_x, z_x] <;> omega)), ha9, (by rw [htk, toN_snoc]; exact hr9)⟩
    (case hm => first | omega | (simp; omega))
    (case hf => simp [FrameL, hnt, hcs, ntw, csw, ntu, csu, lL, lT, lD, c1, h40', hz3, e0, e2, e3, e10, e51, e52, e53, hlt2, hvt, hct, ntb, csb, hok, e13, e15, e79, e80, e81, gb, hlt, ntq, nt7, hgt, e18, e19, e20, ntr, hkx, q_x, g_x, l_x, r_x, z_x, f18_2])
  · have hke : k = j := by omega
    have hkx : ¬ (0 : Int) ≤ (j : Int) - 1 - k := by omega
    try simp (disch := first | omega | (simp; done) | fail) [wrap64c, if_pos, if_neg, opAnd, opOr, opXor, opDiff, opShr, opBit, hnt, hcs, ntw, csw, ntu, csu, lL, lT, lD, c1, h40', hz3, e0, e2, e3, e10, e51, e52, e53, hlt2, hvt, hct, ntb, csb, hok, e13, e15, e79, e80, e81, gb, hlt, ntq, nt7, hgt, e18, e19, e20, ntr, hkx]
    rw [hke, List.take_of_length_le (by simp; omega)] at hr8
    have A9 := ((A5.trans ha).trans ha7).trans ha8
    refine done_ret rfl ⟨A9, r, by rw [hk]; rfl, ?_⟩
    rw [hR]
    exact (hr8.own (by simp; omega)).sub fun o ho => ⟨by have := ho.1; have := ha7.1.1; omega, ho.2⟩
end Go.Proofs.Ytnncipcldbopgaa
namespace Go.Proofs.Ytnncipcldbopgaa
set_option linter.unusedSimpArgs false
set_option linter.unusedVariables false
set_option maxHeartbeats 4000000
open Go Go.Eng
attribute [local irreducible] WD RunD PreD Runs CallOK
theorem implOrder_ok (h : Hp) (v : Value) (L : List (List Int)) (N : Int) (hv : IRows h v L) :
    ∃ v' h', CallOK Try.prog 113 #[.int .i64 N, v] h v' h' ∧ Adds h h' ∧ ∃ b, v' = .tuple #[.agg #[.int .i64 (ordN N L), b], .bool (ordOK N L)] ∧ Ints h' b (ordX N L) := by
  have hnt := hv.nt
  have hcs := hv.cs
  refine callY_L (args := [.int .i64 N, v]) 11 _ [.cell 4 26, .tmp 5] Try.func113 rfl rfl rfl ?_
  try simp (disch := first | omega | (simp; done) | fail) [wrap64c, if_pos, if_neg, opAnd, opOr, opXor, opDiff, opShr, opBit, hnt, hcs]
  first | refine WY_heap fun h0 q_h0 => ?_ | refine callG_heap fun h0 q_h0 => ?_ | refine callP_heap fun h0 q_h0 => ?_ | refine callS_heap fun h0 q_h0 => ?_ | refine RY_heap fun h0 q_h0 => ?_ | refine PY_heap fun h0 q_h0 => ?_ | refine SY_heap fun h0 q_h0 => ?_ | refine doneY_heap fun h0 q_h0 => ?_ | refine loopK_heap fun h0 q_h0 => ?_ | refine thenY_heap fun h0 q_h0 => ?_ | refine thenM_heap fun h0 q_h0 => ?_
  have k0 : Adds h h0 := by rw [q_h0]; exact (by first | exact aK | exact kK)
  have n0 : h0.next = h.next + 1 := by simp [q_h0]
  have g0 : h0.get h.next = .cells [.int .i64 0, .slice none 0 0] true true 1 := by simp [q_h0]
  obtain ⟨_, h1, p1, a1, u, rfl, b, rfl, i1⟩ := orderSpace_ok h0 v L N (hv.keep k0.1)
  have g1 : h1.get h.next = .cells [.int .i64 0, .slice none 0 0] true true 1 := by rw [a1.1.2 _ (by omega)]; exact g0
  have ntb := i1.nt
  have csb := i1.cs
  have n1 := a1.1.1
  have hu2 : ∀ a b c d : Value, putCells [a, b] 0 [c, d] = [c, d] := fun _ _ _ _ => rfl
  refine callG_c (by simp) (by simp) ?ha (p1) ?_
  (case ha => simp (disch := first | omega | (simp; done) | fail) [wrap64c, if_pos, if_neg, opAnd, opOr, opXor, opDiff, opShr, opBit, hnt, hcs, g1, ntb, csb, hu2])
  try simp (disch := first | omega | (simp; done) | fail) [wrap64c, if_pos, if_neg, opAnd, opOr, opXor, opDiff, opShr, opBit, hnt, hcs, g1, ntb, csb, hu2]
  exact done_ret (vs := [.agg #[.int .i64 (ordN N L), b], .bool (ordOK N L)]) (by simp [resL]) ⟨(k0.trans a1).put (Nat.le_refl _) (fun _ => rfl), b, rfl, (i1.read.same (h := h1) (h' := h1.put h.next _) ⟨Nat.le_refl _, fun x hx _ => by simp [show x ≠ h.next by have := hx.1; omega]⟩).ints⟩
end Go.Proofs.Ytnncipcldbopgaa
namespace Go.Proofs.Ytnncipcldbopgaa
set_option linter.unusedSimpArgs false
set_option linter.unusedVariables false
set_option maxHeartbeats 4000000
set_option maxRecDepth 20000
open Go Go.Eng
attribute [local irreducible] WD RunD PreD Runs CallOK
theorem lawLateJobs_ok (h0 : Hp) (v : Value) (xs : List Int) (hv : Bytes h0 v xs) (w : Value) (ys : List Int) (hw : Bytes h0 w ys) : CallOK Try.prog 10 #[v, w] h0 (.bool true) h0 := by
  have ntv := hv.nt
  have csv := hv.cs
  have ntw := hw.nt
  have csw := hw.cs
  refine callY_P 186 _ [.tmp 4] Try.func10 rfl rfl rfl (by first | rfl | simp) ?_
  try simp (disch := first | omega | (simp; done) | fail) [wrap64c, if_pos, if_neg, opAnd, opOr, opXor, opDiff, opShr, opBit, ntv, csv, ntw, csw]
  refine callG_c (by simp) (by simp) ?ha (big_ok h0 _ _ _ _ hv hw) ?_
  (case ha => simp (disch := first | omega | (simp; done) | fail) [wrap64c, if_pos, if_neg, opAnd, opOr, opXor, opDiff, opShr, opBit, ntv, csv, ntw, csw])
  by_cases hbig : 1048576 < xs.length ∨ 1048576 - (xs.length : Int) < ys.length
  case pos =>
    try simp (disch := first | omega | (simp; done) | fail) [wrap64c, if_pos, if_neg, opAnd, opOr, opXor, opDiff, opShr, opBit, ntv, csv, ntw, csw, hbig]
    exact done_ret rfl (by simp)
  have lxs : xs.length ≤ 1048576 := by omega
  have lys : ys.length ≤ 1048576 := by omega
  try simp (disch := first | omega | (simp; done) | fail) [wrap64c, if_pos, if_neg, opAnd, opOr, opXor, opDiff, opShr, opBit, ntv, csv, ntw, csw, hbig]
  have K0 : Keeps h0 h0 := .refl _
  obtain ⟨_, h1, p1, a1, N, p, L, t, T, d, D, rfl, hy, lL, hT, lT, hD, lD⟩ := drawLate_ok h0 v xs (bytes_old hv)
  refine callG_c (by simp) (by simp) ?ha (p1) ?_
  (case ha => simp (disch := first | omega | (simp; done) | fail) [wrap64c, if_pos, if_neg, opAnd, opOr, opXor, opDiff, opShr, opBit, ntv, csv, ntw, csw, hbig])
  have n1 := a1.1.1
  have K1 := K0.trans a1.1
  have hv := hv.keep a1.1
  have hw := hw.keep a1.1
  have ntp := hy.nt
  have csp := hy.cs
  have lnp := hy.lenD
  have ntt := hT.nt
  have cst := hT.cs
  have lnt := hT.lenD
  have ntd := hD.nt
  have csd := hD.cs
  have lnd := hD.lenD
  try simp (disch := first | omega | (simp; done) | fail) [wrap64c, if_pos, if_neg, opAnd, opOr, opXor, opDiff, opShr, opBit, ntv, csv, ntw, csw, hbig, ntp, csp, lnp, ntt, cst, lnt, ntd, csd, lnd]
  obtain ⟨_, h2, p2, a2, u1, rfl, hu1⟩ := implLate_ok h1 p t d L N T D hy hT hD
  refine callG_c (by simp) (by simp) ?ha (p2) ?_
  (case ha => simp (disch := first | omega | (simp; done) | fail) [wrap64c, if_pos, if_neg, opAnd, opOr, opXor, opDiff, opShr, opBit, ntv, csv, ntw, csw, hbig, ntp, csp, lnp, ntt, cst, lnt, ntd, csd, lnd])
  have n2 := a2.1.1
  have K2 := K1.trans a2.1
  have hv := hv.keep a2.1
  have hw := hw.keep a2.1
  have hy := hy.keep a2.1
  have hT := hT.keep a2.1
  have hD := hD.keep a2.1
  have hu1 := hu1.ints
  have ntu1 := hu1.nt
  have csu1 := hu1.cs
  have lnu1 := hu1.lenD
  try simp (disch := first | omega | (simp; done) | fail) [wrap64c, if_pos, if_neg, opAnd, opOr, opXor, opDiff, opShr, opBit, ntv, csv, ntw, csw, hbig, ntp, csp, lnp, ntt, cst, lnt, ntd, csd, lnd, ntu1, csu1, lnu1]
  obtain ⟨_, h3, p3, a3, u2, rfl, hu2⟩ := specLate_ok h2 p t d L N T D hy hT hD
  refine callG_c (by simp) (by simp) ?ha (p3) ?_
  (case ha => simp (disch := first | omega | (simp; done) | fail) [wrap64c, if_pos, if_neg, opAnd, opOr, opXor, opDiff, opShr, opBit, ntv, csv, ntw, csw, hbig, ntp, csp, lnp, ntt, cst, lnt, ntd, csd, lnd, ntu1, csu1, lnu1])
  have n3 := a3.1.1
  have K3 := K2.trans a3.1
  have hv := hv.keep a3.1
  have hw := hw.keep a3.1
  have hy := hy.keep a3.1
  have hT := hT.keep a3.1
  have hD := hD.keep a3.1
  have hu1 := hu1.keep a3.1
  have hu2 := hu2.ints
  have ntu2 := hu2.nt
  have csu2 := hu2.cs
  have lnu2 := hu2.lenD
  try simp (disch := first | omega | (simp; done) | fail) [wrap64c, if_pos, if_neg, opAnd, opOr, opXor, opDiff, opShr, opBit, ntv, csv, ntw, csw, hbig, ntp, csp, lnp, ntt, cst, lnt, ntd, csd, lnd, ntu1, csu1, lnu1, ntu2, csu2, lnu2]
  refine callG_c (by simp) (by simp) ?ha (iSame_ok h3 _ _ _ _ hu1 hu2) ?_
  (case ha => simp (disch := first | omega | (simp; done) | fail) [wrap64c, if_pos, if_neg, opAnd, opOr, opXor, opDiff, opShr, opBit, ntv, csv, ntw, csw, hbig, ntp, csp, lnp, ntt, cst, lnt, ntd, csd, lnd, ntu1, csu1, lnu1, ntu2, csu2, lnu2])
  try simp (disch := first | omega | (simp; done) | fail) [wrap64c, if_pos, if_neg, opAnd, opOr, opXor, opDiff, opShr, opBit, ntv, csv, ntw, csw, hbig, ntp, csp, lnp, ntt, cst, lnt, ntd, csd, lnd, ntu1, csu1, lnu1, ntu2, csu2, lnu2]
  cases c2 : lateB N L T D
  · try simp (disch := first | omega | (simp; done) | fail) [wrap64c, if_pos, if_neg, opAnd, opOr, opXor, opDiff, opShr, opBit, ntv, csv, ntw, csw, hbig, ntp, csp, lnp, ntt, cst, lnt, ntd, csd, lnd, ntu1, csu1, lnu1, ntu2, csu2, lnu2, c2]
    exact done_ret rfl (by simp [K3])
  · obtain ⟨n, eN, n1', n7, l40, hall, lT', lD', bT, bD, gd, hord⟩ := lateB_true c2
    subst eN
    obtain ⟨G, hG⟩ : ∃ G, G = greedN (costN (lateJ T D n)) (ordL n (turnR L)) n := ⟨_, rfl⟩
    have lG : G.length = n := hG ▸ greed_len _ _ _ _
    obtain ⟨R, hR⟩ : ∃ R, R = G.reverse := ⟨_, rfl⟩
    have lR : R.length = n := by rw [hR, List.length_reverse, lG]
    have gj := lateJ_ok n7 lT' lD' bT bD
    have eL : lateR (n : Int) L T D = toN R := by rw [lateR, if_pos c2, hR, hG]; rfl
    have lnL : (lateR (n : Int) L T D).length = n := by rw [eL, toN_length, lR]
    rw [eL] at hu1 hu2
    have ltR : ∀ i ∈ R, i < n := fun i hi => by
      rw [hR, List.mem_reverse, hG] at hi
      exact greed_lt gd _ n (Nat.le_refl _) i hi
    have ndR : R.Nodup := by rw [hR, hG]; exact List.pairwise_reverse.2 ((greed_nodup gd _).imp fun h => h.symm)
    have lnR := toN_length R
    have gtR := toN_get R
    have lnR2 : (toN R).length = n := by rw [lnR, lR]
    have lRn := lR
    try simp (disch := first | omega | (simp; done) | fail) [wrap64c, if_pos, if_neg, opAnd, opOr, opXor, opDiff, opShr, opBit, ntv, csv, ntw, csw, hbig, ntp, csp, lnp, ntt, cst, lnt, ntd, csd, lnd, ntu1, csu1, lnu1, ntu2, csu2, lnu2, c2, lnL, lnR, gtR, lnR2, lRn, putCells]
    first | refine WY_heap fun h4 q_h4 => ?_ | refine callG_heap fun h4 q_h4 => ?_ | refine callP_heap fun h4 q_h4 => ?_ | refine callS_heap fun h4 q_h4 => ?_ | refine RY_heap fun h4 q_h4 => ?_ | refine PY_heap fun h4 q_h4 => ?_ | refine SY_heap fun h4 q_h4 => ?_ | refine doneY_heap fun h4 q_h4 => ?_ | refine loopK_heap fun h4 q_h4 => ?_ | refine thenY_heap fun h4 q_h4 => ?_ | refine thenM_heap fun h4 q_h4 => ?_
    have k4 : Adds h3 h4 := by rw [q_h4]; exact (by first | exact aK | exact kK)
    have m4 : h4.next = h3.next + 1 := by simp [q_h4]
    have g4 : h4.get h3.next = .cells (List.replicate n (.int .i64 0)) true true 1 := by simp [q_h4]
    obtain ⟨pv, hpv⟩ : ∃ x, x = Value.slice (some ⟨h3.next, 0, none⟩) n n := ⟨_, rfl⟩
    rw [← hpv]
    have hP0 : IntsO (fun o => o = h3.next) h4 pv (List.replicate n 0) := by
      rw [hpv]
      have := IntsO.mk (S := fun o => o = h3.next) (h := h4) (xs := List.replicate n (0 : Int)) (ex := true) (o := h3.next) rfl (by omega) (by rw [List.length_replicate]; omega) (by rw [g4, List.map_replicate])
      rwa [List.length_replicate] at this
    have ntpv := hP0.nt
    have cspv := hP0.cs
    refine WD_loopC [5, 6, 7, 8, 9, 13, 71, 72] (fun m tm h' => ∃ P j, m = n - j ∧ tm 73 = .int .i64 (j : Int) ∧ (j ≤ n) ∧ (IntsO (fun o => o = h3.next) h' pv P) ∧ (P.length = n) ∧ (∀ k, k < j → P.getD (R.getD k 0) 0 = (k : Int)) ∧ (∀ o, o < h3.next → h'.get o = h3.get o) ∧ (h'.next = h4.next)) _ ⟨List.replicate n 0, 0, rfl, (by simp (disch := first | omega | (simp; done) | fail) [wrap64c, if_pos, if_neg, opAnd, opOr, opXor, opDiff, opShr, opBit, ntv, csv, ntw, csw, hbig, ntp, csp, lnp, ntt, cst, lnt, ntd, csd, lnd, ntu1, csu1, lnu1, ntu2, csu2, lnu2, c2, lnL, lnR, gtR, lnR2, lRn, ntpv, cspv]), (by first | omega | assumption | (simp (disch := first | omega | (simp; done) | fail) [wrap64c, if_pos, if_neg, opAnd, opOr, opXor, opDiff, opShr, opBit, ntv, csv, ntw, csw, hbig, ntp, csp, lnp, ntt, cst, lnt, ntd, csd, lnd, ntu1, csu1, lnu1, ntu2, csu2, lnu2, c2, lnL, lnR, gtR, lnR2, lRn, ntpv, cspv] <;> omega)), hP0, (by rw [List.length_replicate]), (fun k hk => by omega), (fun o ho => k4.1.2 o ho), (by first | omega | assumption | (simp (disch := first | omega | (simp; done) | fail) [wrap64c, if_pos, if_neg, opAnd, opOr, opXor, opDiff, opShr, opBit, ntv, csv, ntw, csw, hbig, ntp, csp, lnp, ntt, cst, lnt, ntd, csd, lnd, ntu1, csu1, lnu1, ntu2, csu2, lnu2, c2, lnL, lnR, gtR, lnR2, lRn, ntpv, cspv] <;> omega))⟩ ?_
    rintro m tm h' hFr ⟨P, j, rfl, e73, hj, hP, lP, hp, hk, hn⟩
    simp only [FrameL] at hFr
    obtain ⟨f5_0, f6_0, f7_0, f8_0, f9_0, f13_0, f71_0, f72_0, -⟩ := hFr
    try simp (disch := first | omega | (simp; done) | fail) [wrap64c, if_pos, if_neg, opAnd, opOr, opXor, opDiff, opShr, opBit, ntv, csv, ntw, csw, hbig, ntp, csp, lnp, ntt, cst, lnt, ntd, csd, lnd, ntu1, csu1, lnu1, ntu2, csu2, lnu2, c2, lnL, lnR, gtR, lnR2, lRn, ntpv, cspv] at f5_0 f6_0 f7_0 f8_0 f9_0 f13_0 f71_0 f72_0
    have e5 := f5_0
    have e6 := f6_0
    have e7 := f7_0
    have e8 := f8_0
    have e9 := f9_0
    have e13 := f13_0
    have e71 := f71_0
    have e72 := f72_0
    rename Hp => hq
    have kq : Keeps h3 hq := ⟨by omega, hk⟩
    by_cases hlt : j < n
    · have hjR : j < R.length := by omega
      have hRj := ltR _ (List.getElem_mem hjR)
      have eR : R.getD j 0 = R[j] := by rw [List.getD_eq_getElem?_getD, List.getElem?_eq_getElem hjR]; rfl
      obtain ⟨o_x, i_x, c_x, cs_x, own_x, ex_x, es_x, q_x, b_x, g_x, l_x, r_x⟩ := (hu1.keep kq).open ((by omega))
      have z_x : ∀ h2 : i_x < cs_x.length, cs_x[i_x] = _ := fun h2 => r_x 0 ((by omega)) h2
      obtain ⟨o_y, i_y, c_y, cs_y, ex_y, q_y, S_y, b_y, g_y, l_y, r_y⟩ := hP.open ((by omega))
      have z_y : ∀ h2 : i_y < cs_y.length, cs_y[i_y] = _ := fun h2 => r_y 0 ((by omega)) h2
      have hpl := late_places lR ndR ltR lP hlt hp
      rw [eR] at hpl
      try simp (disch := first | omega | (simp; done) | fail) [wrap64c, if_pos, if_neg, opAnd, opOr, opXor, opDiff, opShr, opBit, ntv, csv, ntw, csw, hbig, ntp, csp, lnp, ntt, cst, lnt, ntd, csd, lnd, ntu1, csu1, lnu1, ntu2, csu2, lnu2, c2, lnL, lnR, gtR, lnR2, lRn, ntpv, cspv, e5, e6, e7, e8, e9, e13, e71, e72, e73, hlt, q_x, g_x, l_x, r_x, z_x, q_y, g_y, l_y, r_y, z_y]
      refine loopK_next _ ?hm ?hf ⟨P.set R[j] (j : Int), j + 1, rfl, (by simp (disch := first | omega | (simp; done) | fail) [wrap64c, if_pos, if_neg, opAnd, opOr, opXor, opDiff, opShr, opBit, ntv, csv, ntw, csw, hbig, ntp, csp, lnp, ntt, cst, lnt, ntd, csd, lnd, ntu1, csu1, lnu1, ntu2, csu2, lnu2, c2, lnL, lnR, gtR, lnR2, lRn, ntpv, cspv, e5, e6, e7, e8, e9, e13, e71, e72, e73, hlt, q_x, g_x, l_x, r_x, z_x, q_y, g_y, l_y, r_y, z_y] <;> omega), (by first | omega | assumption | (simp (disch := first | omega | (simp; done) | fail) [wrap64c, if_pos, if_neg, opAnd, opOr, opXor, opDiff, opShr, opBit, ntv, csv, ntw, csw, hbig, ntp, csp, lnp, ntt, cst, lnt, ntd, csd, lnd, ntu1, csu1, lnu1, ntu2, csu2, lnu2, c2, lnL, lnR, gtR, lnR2, lRn, ntpv, cspv, e5, e6, e7, e8, e9, e13, e71, e72, e73, hlt, q_x, g_x, l_x, r_x, z_x, q_y, g_y, l_y, r_y, z_y] <;> omega)), (hP.write q_y (by omega) g_y _), (by simp [lP]), hpl, (fun o ho => by have := S_y; simp [show o ≠ o_y by omega]; exact hk o ho), hn⟩
      (case hm => first | omega | (simp; omega))
      (case hf => simp [FrameL, ntv, csv, ntw, csw, hbig, ntp, csp, lnp, ntt, cst, lnt, ntd, csd, lnd, ntu1, csu1, lnu1, ntu2, csu2, lnu2, c2, lnL, lnR, gtR, lnR2, lRn, ntpv, cspv, e5, e6, e7, e8, e9, e13, e71, e72, e73, hlt, q_x, g_x, l_x, r_x, z_x, q_y, g_y, l_y, r_y, z_y, f5_0, f6_0, f7_0, f8_0, f9_0, f13_0, f71_0, f72_0])
    · have hjn : j = n := by omega
      have hp : ∀ k, k < n → P.getD (R.getD k 0) 0 = (k : Int) := fun k hk => hp k (by omega)
      have K4 := K3.trans kq
      have hyq := hy.keep kq
      have hTq := hT.keep kq
      have hDq := hD.keep kq
      have hu1q := hu1.keep kq
      have hPi := hP.ints
      try simp (disch := first | omega | (simp; done) | fail) [wrap64c, if_pos, if_neg, opAnd, opOr, opXor, opDiff, opShr, opBit, ntv, csv, ntw, csw, hbig, ntp, csp, lnp, ntt, cst, lnt, ntd, csd, lnd, ntu1, csu1, lnu1, ntu2, csu2, lnu2, c2, lnL, lnR, gtR, lnR2, lRn, ntpv, cspv, e5, e6, e7, e8, e9, e13, e71, e72, e73, hlt]
      refine WD_loopC [5, 6, 7, 8, 9, 13, 83, 84] (fun m tm h' => ∃ i, m = L.length - i ∧ hq = h' ∧ tm 85 = .int .i64 (i : Int) ∧ (i ≤ L.length)) _ ⟨0, rfl, rfl, (by simp (disch := first | omega | (simp; done) | fail) [wrap64c, if_pos, if_neg, opAnd, opOr, opXor, opDiff, opShr, opBit, ntv, csv, ntw, csw, hbig, ntp, csp, lnp, ntt, cst, lnt, ntd, csd, lnd, ntu1, csu1, lnu1, ntu2, csu2, lnu2, c2, lnL, lnR, gtR, lnR2, lRn, ntpv, cspv, e5, e6, e7, e8, e9, e13, e71, e72, e73, hlt]), (by first | omega | assumption | (simp (disch := first | omega | (simp; done) | fail) [wrap64c, if_pos, if_neg, opAnd, opOr, opXor, opDiff, opShr, opBit, ntv, csv, ntw, csw, hbig, ntp, csp, lnp, ntt, cst, lnt, ntd, csd, lnd, ntu1, csu1, lnu1, ntu2, csu2, lnu2, c2, lnL, lnR, gtR, lnR2, lRn, ntpv, cspv, e5, e6, e7, e8, e9, e13, e71, e72, e73, hlt] <;> omega))⟩ ?_
      rintro m tm h' hFr ⟨i, rfl, rfl, e85, hi⟩
      simp only [FrameL] at hFr
      obtain ⟨f5_1, f6_1, f7_1, f8_1, f9_1, f13_1, f83_1, f84_1, -⟩ := hFr
      try simp (disch := first | omega | (simp; done) | fail) [wrap64c, if_pos, if_neg, opAnd, opOr, opXor, opDiff, opShr, opBit, ntv, csv, ntw, csw, hbig, ntp, csp, lnp, ntt, cst, lnt, ntd, csd, lnd, ntu1, csu1, lnu1, ntu2, csu2, lnu2, c2, lnL, lnR, gtR, lnR2, lRn, ntpv, cspv, e5, e6, e7, e8, e9, e13, e71, e72, e73, hlt] at f5_1 f6_1 f7_1 f8_1 f9_1 f13_1 f83_1 f84_1
      have e5 := f5_1
      have e6 := f6_1
      have e7 := f7_1
      have e8 := f8_1
      have e9 := f9_1
      have e13 := f13_1
      have e83 := f83_1
      have e84 := f84_1
      by_cases hlt2 : i < L.length
      · obtain ⟨c, e, hc, he, hce⟩ := pair_two (hall _ (List.getElem_mem hlt2))
        have hpb := hall _ (List.getElem_mem hlt2)
        have hne : c ≠ e := by
          rw [hce] at hpb
          intro h
          subst h
          simp [pairB] at hpb
        obtain ⟨kc, ke, o1, o2, o3, o4⟩ := late_order gd (costN (lateJ T D n)) (List.getElem_mem hlt2) hc hne hce
        rw [← hG, ← hR] at o3 o4
        have pc := hp kc (by omega)
        have pe := hp ke (by omega)
        rw [o3] at pc
        rw [o4] at pe
        have pc' : P[c]'(by omega) = (kc : Int) := by rw [List.getD_eq_getElem?_getD, List.getElem?_eq_getElem (by omega)] at pc; exact pc
        have pe' : P[e]'(by omega) = (ke : Int) := by rw [List.getD_eq_getElem?_getD, List.getElem?_eq_getElem (by omega)] at pe; exact pe
        have hng : ¬ (ke : Int) ≤ (kc : Int) := by omega
        obtain ⟨o_x, i_x, c_x, cs_x, own_x, ex_x, es_x, us_x, q_x, b_x, g_x, l_x, r_x, R_x⟩ := hyq.open ((by omega))
        have z_x : ∀ h2 : i_x < cs_x.length, cs_x[i_x] = _ := fun h2 => r_x 0 ((by omega)) h2
        have hRx := R_x i hlt2
        rw [hce] at hRx
        obtain ⟨o_y, i_y, c_y, cs_y, own_y, ex_y, es_y, q_y, b_y, g_y, l_y, r_y⟩ := hRx.open ((by simp))
        have z_y : ∀ h2 : i_y < cs_y.length, cs_y[i_y] = _ := fun h2 => r_y 0 ((by simp)) h2
        have l2_y : i_y + 1 < cs_y.length := by have := l_y; simp at this; omega
        have l3_y : i_y < cs_y.length := by omega
        have z2_y := r_y 1 (by simp)
        obtain ⟨o_z, i_z, c_z, cs_z, own_z, ex_z, es_z, q_z, b_z, g_z, l_z, r_z⟩ := hPi.open ((by omega))
        have z_z : ∀ h2 : i_z < cs_z.length, cs_z[i_z] = _ := fun h2 => r_z 0 ((by omega)) h2
        have z2_z := r_z c (by omega)
        have z3_z := r_z e (by omega)
        rw [pc'] at z2_z
        rw [pe'] at z3_z
        have l2_z : i_z + c < cs_z.length := by omega
        have l3_z : i_z + e < cs_z.length := by omega
        try simp (disch := first | omega | (simp; done) | fail) [wrap64c, if_pos, if_neg, opAnd, opOr, opXor, opDiff, opShr, opBit, ntv, csv, ntw, csw, hbig, ntp, csp, lnp, ntt, cst, lnt, ntd, csd, lnd, ntu1, csu1, lnu1, ntu2, csu2, lnu2, c2, lnL, lnR, gtR, lnR2, lRn, ntpv, cspv, e5, e6, e7, e8, e9, e13, e71, e72, e73, hlt, e83, e84, e85, hlt2, hng, q_x, g_x, l_x, r_x, z_x, q_y, g_y, l_y, r_y, z_y, l2_y, l3_y, z2_y, q_z, g_z, l_z, r_z, z_z, l2_z, z2_z, z3_z, l3_z]
        refine WD_drawC 12 rfl (by kernel_rfl) ?_
        try simp (disch := first | omega | (simp; done) | fail) [wrap64c, if_pos, if_neg, opAnd, opOr, opXor, opDiff, opShr, opBit, ntv, csv, ntw, csw, hbig, ntp, csp, lnp, ntt, cst, lnt, ntd, csd, lnd, ntu1, csu1, lnu1, ntu2, csu2, lnu2, c2, lnL, lnR, gtR, lnR2, lRn, ntpv, cspv, e5, e6, e7, e8, e9, e13, e71, e72, e73, hlt, e83, e84, e85, hlt2, hng, q_x, g_x, l_x, r_x, z_x, q_y, g_y, l_y, r_y, z_y, l2_y, l3_y, z2_y, q_z, g_z, l_z, r_z, z_z, l2_z, z2_z, z3_z, l3_z]
        refine loopK_next _ ?hm ?hf ⟨i + 1, rfl, rfl, (by simp (disch := first | omega | (simp; done) | fail) [wrap64c, if_pos, if_neg, opAnd, opOr, opXor, opDiff, opShr, opBit, ntv, csv, ntw, csw, hbig, ntp, csp, lnp, ntt, cst, lnt, ntd, csd, lnd, ntu1, csu1, lnu1, ntu2, csu2, lnu2, c2, lnL, lnR, gtR, lnR2, lRn, ntpv, cspv, e5, e6, e7, e8, e9, e13, e71, e72, e73, hlt, e83, e84, e85, hlt2, hng, q_x, g_x, l_x, r_x, z_x, q_y, g_y, l_y, r_y, z_y, l2_y, l3_y, z2_y, q_z, g_z, l_z, r_z, z_z, l2_z, z2_z, z3_z, l3_z] <;> omega), (by first | omega | assumption | (simp (disch := first | omega | (simp; done) | fail) [wrap64c, if_pos, if_neg, opAnd, opOr, opXor, opDiff, opShr, opBit, ntv, csv, ntw, csw, hbig, ntp, csp, lnp, ntt, cst, lnt, ntd, csd, lnd, ntu1, csu1, lnu1, ntu2, csu2, lnu2, c2, lnL, lnR, gtR, lnR2, lRn, ntpv, cspv, e5, e6, e7, e8, e9, e13, e71, e72, e73, hlt, e83, e84, e85, hlt2, hng, q_x, g_x, l_x, r_x, z_x, q_y, g_y, l_y, r_y, z_y, l2_y, l3_y, z2_y, q_z, g_z, l_z, r_z, z_z, l2_z, z2_z, z3_z, l3_z] <;> omega))⟩
        (case hm => first | omega | (simp; omega))
        (case hf => simp [FrameL, ntv, csv, ntw, csw, hbig, ntp, csp, lnp, ntt, cst, lnt, ntd, csd, lnd, ntu1, csu1, lnu1, ntu2, csu2, lnu2, c2, lnL, lnR, gtR, lnR2, lRn, ntpv, cspv, e5, e6, e7, e8, e9, e13, e71, e72, e73, hlt, e83, e84, e85, hlt2, hng, q_x, g_x, l_x, r_x, z_x, q_y, g_y, l_y, r_y, z_y, l2_y, l3_y, z2_y, q_z, g_z, l_z, r_z, z_z, l2_z, z2_z, z3_z, l3_z, f5_1, f6_1, f7_1, f8_1, f9_1, f13_1, f83_1, f84_1])
      · try simp (disch := first | omega | (simp; done) | fail) [wrap64c, if_pos, if_neg, opAnd, opOr, opXor, opDiff, opShr, opBit, ntv, csv, ntw, csw, hbig, ntp, csp, lnp, ntt, cst, lnt, ntd, csd, lnd, ntu1, csu1, lnu1, ntu2, csu2, lnu2, c2, lnL, lnR, gtR, lnR2, lRn, ntpv, cspv, e5, e6, e7, e8, e9, e13, e71, e72, e73, hlt, e83, e84, e85, hlt2]
        refine WD_loopC [5, 7, 8, 9, 103, 104] (fun m tm h' => ∃ q i, m = L.length - i ∧ tm 18 = q ∧ tm 105 = .int .i64 (i : Int) ∧ (i ≤ L.length) ∧ (Adds hq h') ∧ (IRowsA hq.next h' q (turnR (L.take i)))) _ ⟨Value.slice none 0 0, 0, rfl, (by simp (disch := first | omega | (simp; done) | fail) [wrap64c, if_pos, if_neg, opAnd, opOr, opXor, opDiff, opShr, opBit, ntv, csv, ntw, csw, hbig, ntp, csp, lnp, ntt, cst, lnt, ntd, csd, lnd, ntu1, csu1, lnu1, ntu2, csu2, lnu2, c2, lnL, lnR, gtR, lnR2, lRn, ntpv, cspv, e5, e6, e7, e8, e9, e13, e71, e72, e73, hlt, e83, e84, e85, hlt2]), (by simp (disch := first | omega | (simp; done) | fail) [wrap64c, if_pos, if_neg, opAnd, opOr, opXor, opDiff, opShr, opBit, ntv, csv, ntw, csw, hbig, ntp, csp, lnp, ntt, cst, lnt, ntd, csd, lnd, ntu1, csu1, lnu1, ntu2, csu2, lnu2, c2, lnL, lnR, gtR, lnR2, lRn, ntpv, cspv, e5, e6, e7, e8, e9, e13, e71, e72, e73, hlt, e83, e84, e85, hlt2]), (by first | omega | assumption | (simp (disch := first | omega | (simp; done) | fail) [wrap64c, if_pos, if_neg, opAnd, opOr, opXor, opDiff, opShr, opBit, ntv, csv, ntw, csw, hbig, ntp, csp, lnp, ntt, cst, lnt, ntd, csd, lnd, ntu1, csu1, lnu1, ntu2, csu2, lnu2, c2, lnL, lnR, gtR, lnR2, lRn, ntpv, cspv, e5, e6, e7, e8, e9, e13, e71, e72, e73, hlt, e83, e84, e85, hlt2] <;> omega)), (by first | exact aK | exact kK), (.nil _ _)⟩ ?_
        rintro m tm h' hFr ⟨q, i, rfl, e18, e105, hi, ha2, hr⟩
        simp only [FrameL] at hFr
        obtain ⟨f5_2, f7_2, f8_2, f9_2, f103_2, f104_2, -⟩ := hFr
        try simp (disch := first | omega | (simp; done) | fail) [wrap64c, if_pos, if_neg, opAnd, opOr, opXor, opDiff, opShr, opBit, ntv, csv, ntw, csw, hbig, ntp, csp, lnp, ntt, cst, lnt, ntd, csd, lnd, ntu1, csu1, lnu1, ntu2, csu2, lnu2, c2, lnL, lnR, gtR, lnR2, lRn, ntpv, cspv, e5, e6, e7, e8, e9, e13, e71, e72, e73, hlt, e83, e84, e85, hlt2] at f5_2 f7_2 f8_2 f9_2 f103_2 f104_2
        have e5 := f5_2
        have e7 := f7_2
        have e8 := f8_2
        have e9 := f9_2
        have e103 := f103_2
        have e104 := f104_2
        rename Hp => hp2
        have hv2 := hyq.keep ha2.1
        have hm2 := ha2.1.1
        by_cases hlt3 : i < L.length
        · obtain ⟨c, e, hc, he, hce⟩ := pair_two (hall _ (List.getElem_mem hlt3))
          obtain ⟨o_x, i_x, c_x, cs_x, own_x, ex_x, es_x, us_x, q_x, b_x, g_x, l_x, r_x, R_x⟩ := hv2.open ((by omega))
          have z_x : ∀ h2 : i_x < cs_x.length, cs_x[i_x] = _ := fun h2 => r_x 0 ((by omega)) h2
          have hRx := R_x i hlt3
          rw [hce] at hRx
          obtain ⟨o_y, i_y, c_y, cs_y, own_y, ex_y, es_y, q_y, b_y, g_y, l_y, r_y⟩ := hRx.open ((by simp))
          have z_y : ∀ h2 : i_y < cs_y.length, cs_y[i_y] = _ := fun h2 => r_y 0 ((by simp)) h2
          have l2_y : i_y + 1 < cs_y.length := by have := l_y; simp at this; omega
          have l3_y : i_y < cs_y.length := by omega
          have z2_y := r_y 1 (by simp)
          have htl : (turnR (L.take i)).length ≤ i := by simp [turnR]; omega
          have hts := turnR_succ L hlt3
          simp only [hce, List.getD_cons_zero, List.getD_cons_succ] at hts
          have htn := hr.nt
          try simp (disch := first | omega | (simp; done) | fail) [wrap64c, if_pos, if_neg, opAnd, opOr, opXor, opDiff, opShr, opBit, ntv, csv, ntw, csw, hbig, ntp, csp, lnp, ntt, cst, lnt, ntd, csd, lnd, ntu1, csu1, lnu1, ntu2, csu2, lnu2, c2, lnL, lnR, gtR, lnR2, lRn, ntpv, cspv, e5, e6, e7, e8, e9, e13, e71, e72, e73, hlt, e83, e84, e85, hlt2, e18, e103, e104, e105, hlt3, q_x, g_x, l_x, r_x, z_x, q_y, g_y, l_y, r_y, z_y, l2_y, l3_y, z2_y, htn]
          refine WD_drawC 9 rfl (by kernel_rfl) ?_
          try simp (disch := first | omega | (simp; done) | fail) [wrap64c, if_pos, if_neg, opAnd, opOr, opXor, opDiff, opShr, opBit, ntv, csv, ntw, csw, hbig, ntp, csp, lnp, ntt, cst, lnt, ntd, csd, lnd, ntu1, csu1, lnu1, ntu2, csu2, lnu2, c2, lnL, lnR, gtR, lnR2, lRn, ntpv, cspv, e5, e6, e7, e8, e9, e13, e71, e72, e73, hlt, e83, e84, e85, hlt2, e18, e103, e104, e105, hlt3, q_x, g_x, l_x, r_x, z_x, q_y, g_y, l_y, r_y, z_y, l2_y, l3_y, z2_y, htn]
          obtain ⟨t2, hx3, hap, hr3, ha3, hn3, _⟩ := appP hr (e : Int) (c : Int) (by omega) (by omega) ha2 (Nat.le_refl _)
          try simp (disch := first | omega | (simp; done) | fail) [wrap64c, if_pos, if_neg, opAnd, opOr, opXor, opDiff, opShr, opBit, ntv, csv, ntw, csw, hbig, ntp, csp, lnp, ntt, cst, lnt, ntd, csd, lnd, ntu1, csu1, lnu1, ntu2, csu2, lnu2, c2, lnL, lnR, gtR, lnR2, lRn, ntpv, cspv, e5, e6, e7, e8, e9, e13, e71, e72, e73, hlt, e83, e84, e85, hlt2, e18, e103, e104, e105, hlt3, q_x, g_x, l_x, r_x, z_x, q_y, g_y, l_y, r_y, z_y, l2_y, l3_y, z2_y, htn, hap]
          refine loopK_next _ ?hm ?hf ⟨t2, i + 1, rfl, (by simp (disch := first | omega | (simp; done) | fail) [wrap64c, if_pos, if_neg, opAnd, opOr, opXor, opDiff, opShr, opBit, ntv, csv, ntw, csw, hbig, ntp, csp, lnp, ntt, cst, lnt, ntd, csd, lnd, ntu1, csu1, lnu1, ntu2, csu2, lnu2, c2, lnL, lnR, gtR, lnR2, lRn, ntpv, cspv, e5, e6, e7, e8, e9, e13, e71, e72, e73, hlt, e83, e84, e85, hlt2, e18, e103, e104, e105, hlt3, q_x, g_x, l_x, r_x, z_x, q_y, g_y, l_y, r_y, z_y, l2_y, l3_y, z2_y, htn] <;> omega), (by simp (disch := first | omega | (simp; done) | fail) [wrap64c, if_pos, if_neg, opAnd, opOr, opXor, opDiff, opShr, opBit, ntv, csv, ntw, csw, hbig, ntp, csp, lnp, ntt, cst, lnt, ntd, csd, lnd, ntu1, csu1, lnu1, ntu2, csu2, lnu2, c2, lnL, lnR, gtR, lnR2, lRn, ntpv, cspv, e5, e6, e7, e8, e9, e13, e71, e72, e73, hlt, e83, e84, e85, hlt2, e18, e103, e104, e105, hlt3, q_x, g_x, l_x, r_x, z_x, q_y, g_y, l_y, r_y, z_y, l2_y, l3_y, z2_y, htn] <;> omega), (by first | omega | assumption | (simp (disch := first | omega | (simp; done) | fail) [wrap64c, if_pos, if_neg, opAnd, opOr, opXor, opDiff, opShr, opBit, ntv, csv, ntw, csw, hbig, ntp, csp, lnp, ntt, cst, lnt, ntd, csd, lnd, ntu1, csu1, lnu1, ntu2, csu2, lnu2, c2, lnL, lnR, gtR, lnR2, lRn, ntpv, cspv, e5, e6, e7, e8, e9, e13, e71, e72, e73, hlt, e83, e84, e85, hlt2, e18, e103, e104, e105, hlt3, q_x, g_x, l_x, r_x, z_x, q_y, g_y, l_y, r_y, z_y, l2_y, l3_y, z2_y, htn] <;> omega)), ha3, (by rw [hts]; exact hr3)⟩
          (case hm => first | omega | (simp; omega))
          (case hf => simp [FrameL, ntv, csv, ntw, csw, hbig, ntp, csp, lnp, ntt, cst, lnt, ntd, csd, lnd, ntu1, csu1, lnu1, ntu2, csu2, lnu2, c2, lnL, lnR, gtR, lnR2, lRn, ntpv, cspv, e5, e6, e7, e8, e9, e13, e71, e72, e73, hlt, e83, e84, e85, hlt2, e18, e103, e104, e105, hlt3, q_x, g_x, l_x, r_x, z_x, q_y, g_y, l_y, r_y, z_y, l2_y, l3_y, z2_y, htn, f5_2, f7_2, f8_2, f9_2, f103_2, f104_2])
        · have hie : L.take i = L := List.take_of_length_le (by omega)
          rw [hie] at hr
          have hrows := (hr.own (by simp [turnR]; omega)).rows
          have htn := hr.nt
          have hcq := hrows.cs
          obtain ⟨_, h5, p5, a5, b5, rfl, hb5⟩ := implOrder_ok hp2 q (turnR L) n hrows
          rw [hord] at p5
          have hON : ordN (n : Int) (turnR L) = (n : Int) := by unfold ordN; rw [if_pos hord]
          have hOX : ordX (n : Int) (turnR L) = toN (ordL n (turnR L)) := by unfold ordX; rw [if_pos hord]; simp
          rw [hON] at p5
          rw [hOX] at hb5
          have ntb5 := hb5.nt
          have csb5 := hb5.cs
          have hu2c : ∀ a b c d : Value, putCells [a, b] 0 [c, d] = [c, d] := fun _ _ _ _ => rfl
          try simp (disch := first | omega | (simp; done) | fail) [wrap64c, if_pos, if_neg, opAnd, opOr, opXor, opDiff, opShr, opBit, ntv, csv, ntw, csw, hbig, ntp, csp, lnp, ntt, cst, lnt, ntd, csd, lnd, ntu1, csu1, lnu1, ntu2, csu2, lnu2, c2, lnL, lnR, gtR, lnR2, lRn, ntpv, cspv, e5, e6, e7, e8, e9, e13, e71, e72, e73, hlt, e83, e84, e85, hlt2, e18, e103, e104, e105, hlt3, htn, hcq, ntb5, csb5, hu2c]
          refine callG_c (by simp) (by simp) ?ha (p5) ?_
          (case ha => simp (disch := first | omega | (simp; done) | fail) [wrap64c, if_pos, if_neg, opAnd, opOr, opXor, opDiff, opShr, opBit, ntv, csv, ntw, csw, hbig, ntp, csp, lnp, ntt, cst, lnt, ntd, csd, lnd, ntu1, csu1, lnu1, ntu2, csu2, lnu2, c2, lnL, lnR, gtR, lnR2, lRn, ntpv, cspv, e5, e6, e7, e8, e9, e13, e71, e72, e73, hlt, e83, e84, e85, hlt2, e18, e103, e104, e105, hlt3, htn, hcq, ntb5, csb5, hu2c])
          try simp (disch := first | omega | (simp; done) | fail) [wrap64c, if_pos, if_neg, opAnd, opOr, opXor, opDiff, opShr, opBit, ntv, csv, ntw, csw, hbig, ntp, csp, lnp, ntt, cst, lnt, ntd, csd, lnd, ntu1, csu1, lnu1, ntu2, csu2, lnu2, c2, lnL, lnR, gtR, lnR2, lRn, ntpv, cspv, e5, e6, e7, e8, e9, e13, e71, e72, e73, hlt, e83, e84, e85, hlt2, e18, e103, e104, e105, hlt3, htn, hcq, ntb5, csb5, hu2c]
          first | refine WY_heap fun h6 q_h6 => ?_ | refine callG_heap fun h6 q_h6 => ?_ | refine callP_heap fun h6 q_h6 => ?_ | refine callS_heap fun h6 q_h6 => ?_ | refine RY_heap fun h6 q_h6 => ?_ | refine PY_heap fun h6 q_h6 => ?_ | refine SY_heap fun h6 q_h6 => ?_ | refine doneY_heap fun h6 q_h6 => ?_ | refine loopK_heap fun h6 q_h6 => ?_ | refine thenY_heap fun h6 q_h6 => ?_ | refine thenM_heap fun h6 q_h6 => ?_
          have k6 : Adds h5 h6 := by rw [q_h6]; exact (by first | exact aK | exact kK)
          have m6 : h6.next = h5.next + 1 := by simp [q_h6]
          have g6 : h6.get h5.next = .cells [.int .i64 (n : Int), b5] true true 1 := by simp [q_h6]
          have kq6 : Keeps hq h6 := (ha2.1.trans a5.1).trans k6.1
          have hT6 := hTq.keep kq6
          have hD6 := hDq.keep kq6
          have hz3 : zarr #[Value.int .i64 0, Value.int .i64 0, Value.int .i64 0] 3 = #[Value.int .i64 0, Value.int .i64 0, Value.int .i64 0] := zarr3_3 _ _ _
          refine WD_loopC [7, 8, 9, 21, 22, 126, 127] (fun m tm h' => ∃ z i, m = n - i ∧ tm 23 = z ∧ tm 128 = .int .i64 (i : Int) ∧ (i ≤ n) ∧ (Adds h6 h') ∧ (GL 3 jobR h6.next h' z (lateJ T D i))) _ ⟨Value.slice none 0 0, 0, rfl, (by simp (disch := first | omega | (simp; done) | fail) [wrap64c, if_pos, if_neg, opAnd, opOr, opXor, opDiff, opShr, opBit, ntv, csv, ntw, csw, hbig, ntp, csp, lnp, ntt, cst, lnt, ntd, csd, lnd, ntu1, csu1, lnu1, ntu2, csu2, lnu2, c2, lnL, lnR, gtR, lnR2, lRn, ntpv, cspv, e5, e6, e7, e8, e9, e13, e71, e72, e73, hlt, e83, e84, e85, hlt2, e18, e103, e104, e105, hlt3, htn, hcq, ntb5, csb5, hu2c, g6, hz3]), (by simp (disch := first | omega | (simp; done) | fail) [wrap64c, if_pos, if_neg, opAnd, opOr, opXor, opDiff, opShr, opBit, ntv, csv, ntw, csw, hbig, ntp, csp, lnp, ntt, cst, lnt, ntd, csd, lnd, ntu1, csu1, lnu1, ntu2, csu2, lnu2, c2, lnL, lnR, gtR, lnR2, lRn, ntpv, cspv, e5, e6, e7, e8, e9, e13, e71, e72, e73, hlt, e83, e84, e85, hlt2, e18, e103, e104, e105, hlt3, htn, hcq, ntb5, csb5, hu2c, g6, hz3]), (by first | omega | assumption | (simp (disch := first | omega | (simp; done) | fail) [wrap64c, if_pos, if_neg, opAnd, opOr, opXor, opDiff, opShr, opBit, ntv, csv, ntw, csw, hbig, ntp, csp, lnp, ntt, cst, lnt, ntd, csd, lnd, ntu1, csu1, lnu1, ntu2, csu2, lnu2, c2, lnL, lnR, gtR, lnR2, lRn, ntpv, cspv, e5, e6, e7, e8, e9, e13, e71, e72, e73, hlt, e83, e84, e85, hlt2, e18, e103, e104, e105, hlt3, htn, hcq, ntb5, csb5, hu2c, g6, hz3] <;> omega)), (by first | exact aK | exact kK), (GL.nil _ _)⟩ ?_
          rintro m tm h' hFr ⟨z, i, rfl, e23, e128, hi, ha3, hg⟩
          simp only [FrameL] at hFr
          obtain ⟨f7_3, f8_3, f9_3, f21_3, f22_3, f126_3, f127_3, -⟩ := hFr
          try simp (disch := first | omega | (simp; done) | fail) [wrap64c, if_pos, if_neg, opAnd, opOr, opXor, opDiff, opShr, opBit, ntv, csv, ntw, csw, hbig, ntp, csp, lnp, ntt, cst, lnt, ntd, csd, lnd, ntu1, csu1, lnu1, ntu2, csu2, lnu2, c2, lnL, lnR, gtR, lnR2, lRn, ntpv, cspv, e5, e6, e7, e8, e9, e13, e71, e72, e73, hlt, e83, e84, e85, hlt2, e18, e103, e104, e105, hlt3, htn, hcq, ntb5, csb5, hu2c, g6, hz3] at f7_3 f8_3 f9_3 f21_3 f22_3 f126_3 f127_3
          have e7 := f7_3
          have e8 := f8_3
          have e9 := f9_3
          have e21 := f21_3
          have e22 := f22_3
          have e126 := f126_3
          have e127 := f127_3
          rename Hp => h7
          have n7' := ha3.1.1
          have hT7 := hT6.keep ha3.1
          have hD7 := hD6.keep ha3.1
          have g7 : h7.get h5.next = .cells [.int .i64 (n : Int), b5] true true 1 := by rw [ha3.1.2 _ (by omega)]; exact g6
          by_cases hlt4 : i < n
          · have hiT : i < T.length := by omega
            have hiD : i < D.length := by omega
            have bTi := bT _ (List.getElem_mem hiT)
            have bDi := bD _ (List.getElem_mem hiD)
            obtain ⟨o_x, i_x, c_x, cs_x, own_x, ex_x, es_x, q_x, b_x, g_x, l_x, r_x⟩ := hT7.open ((by omega))
            have z_x : ∀ h2 : i_x < cs_x.length, cs_x[i_x] = _ := fun h2 => r_x 0 ((by omega)) h2
            obtain ⟨o_y, i_y, c_y, cs_y, own_y, ex_y, es_y, q_y, b_y, g_y, l_y, r_y⟩ := hD7.open ((by omega))
            have z_y : ∀ h2 : i_y < cs_y.length, cs_y[i_y] = _ := fun h2 => r_y 0 ((by omega)) h2
            have ntz := hg.nt
            obtain ⟨z2, h8, hap, hg2, ha8, hn8, _⟩ := appJ hg (⟨T[i], 1, -D[i]⟩ : Job) (by simp; omega) ha3.1.1 ha3 (Nat.le_refl _)
            try simp (disch := first | omega | (simp; done) | fail) [wrap64c, if_pos, if_neg, opAnd, opOr, opXor, opDiff, opShr, opBit, ntv, csv, ntw, csw, hbig, ntp, csp, lnp, ntt, cst, lnt, ntd, csd, lnd, ntu1, csu1, lnu1, ntu2, csu2, lnu2, c2, lnL, lnR, gtR, lnR2, lRn, ntpv, cspv, e5, e6, e7, e8, e9, e13, e71, e72, e73, hlt, e83, e84, e85, hlt2, e18, e103, e104, e105, hlt3, htn, hcq, ntb5, csb5, hu2c, g6, hz3, e21, e22, e23, e126, e127, e128, g7, hiT, hiD, q_x, g_x, l_x, r_x, z_x, q_y, g_y, l_y, r_y, z_y, ntz]
            try simp (disch := first | omega | (simp; done) | fail) [wrap64c, if_pos, if_neg, opAnd, opOr, opXor, opDiff, opShr, opBit, ntv, csv, ntw, csw, hbig, ntp, csp, lnp, ntt, cst, lnt, ntd, csd, lnd, ntu1, csu1, lnu1, ntu2, csu2, lnu2, c2, lnL, lnR, gtR, lnR2, lRn, ntpv, cspv, e5, e6, e7, e8, e9, e13, e71, e72, e73, hlt, e83, e84, e85, hlt2, e18, e103, e104, e105, hlt3, htn, hcq, ntb5, csb5, hu2c, g6, hz3, e21, e22, e23, e126, e127, e128, g7, hiT, hiD, q_x, g_x, l_x, r_x, z_x, q_y, g_y, l_y, r_y, z_y, ntz, hap]
            refine loopK_next _ ?hm ?hf ⟨z2, i + 1, rfl, (by simp (disch := first | omega | (simp; done) | fail) [wrap64c, if_pos, if_neg, opAnd, opOr, opXor, opDiff, opShr, opBit, ntv, csv, ntw, csw, hbig, ntp, csp, lnp, ntt, cst, lnt, ntd, csd, lnd, ntu1, csu1, lnu1, ntu2, csu2, lnu2, c2, lnL, lnR, gtR, lnR2, lRn, ntpv, cspv, e5, e6, e7, e8, e9, e13, e71, e72, e73, hlt, e83, e84, e85, hlt2, e18, e103, e104, e105, hlt3, htn, hcq, ntb5, csb5, hu2c, g6, hz3, e21, e22, e23, e126, e127, e128, g7, hiT, hiD, q_x, g_x, l_x, r_x, z_x, q_y, g_y, l_y, r_y, z_y, ntz] <;> omega), (by simp (disch := first | omega | (simp; done) | fail) [wrap64c, if_pos, if_neg, opAnd, opOr, opXor, opDiff, opShr, opBit, ntv, csv, ntw, csw, hbig, ntp, csp, lnp, ntt, cst, lnt, ntd, csd, lnd, ntu1, csu1, lnu1, ntu2, csu2, lnu2, c2, lnL, lnR, gtR, lnR2, lRn, ntpv, cspv, e5, e6, e7, e8, e9, e13, e71, e72, e73, hlt, e83, e84, e85, hlt2, e18, e103, e104, e105, hlt3, htn, hcq, ntb5, csb5, hu2c, g6, hz3, e21, e22, e23, e126, e127, e128, g7, hiT, hiD, q_x, g_x, l_x, r_x, z_x, q_y, g_y, l_y, r_y, z_y, ntz] <;> omega), (by first | omega | assumption | (simp (disch := first | omega | (simp; done) | fail) [wrap64c, if_pos, if_neg, opAnd, opOr, opXor, opDiff, opShr, opBit, ntv, csv, ntw, csw, hbig, ntp, csp, lnp, ntt, cst, lnt, ntd, csd, lnd, ntu1, csu1, lnu1, ntu2, csu2, lnu2, c2, lnL, lnR, gtR, lnR2, lRn, ntpv, cspv, e5, e6, e7, e8, e9, e13, e71, e72, e73, hlt, e83, e84, e85, hlt2, e18, e103, e104, e105, hlt3, htn, hcq, ntb5, csb5, hu2c, g6, hz3, e21, e22, e23, e126, e127, e128, g7, hiT, hiD, q_x, g_x, l_x, r_x, z_x, q_y, g_y, l_y, r_y, z_y, ntz] <;> omega)), ha8, (by rw [lateJ_succ]; simpa [List.getD_eq_getElem?_getD, hiT, hiD] using hg2)⟩
            (case hm => first | omega | (simp; omega))
            (case hf => simp [FrameL, ntv, csv, ntw, csw, hbig, ntp, csp, lnp, ntt, cst, lnt, ntd, csd, lnd, ntu1, csu1, lnu1, ntu2, csu2, lnu2, c2, lnL, lnR, gtR, lnR2, lRn, ntpv, cspv, e5, e6, e7, e8, e9, e13, e71, e72, e73, hlt, e83, e84, e85, hlt2, e18, e103, e104, e105, hlt3, htn, hcq, ntb5, csb5, hu2c, g6, hz3, e21, e22, e23, e126, e127, e128, g7, hiT, hiD, q_x, g_x, l_x, r_x, z_x, q_y, g_y, l_y, r_y, z_y, ntz, f7_3, f8_3, f9_3, f21_3, f22_3, f126_3, f127_3])
          · have hin : i = n := by omega
            have hiT : ¬ (i : Int) < (T.length : Int) := by omega
            have hg := hin ▸ hg
            have hjobs := jobs_of hg (by simp; omega)
            have ntz := hjobs.nt
            have csz := hjobs.cs
            have gvt : gvB (n : Int) (toN (ordL n (turnR L))) (lateJ T D n) = true := by
              simp only [gvB, Bool.and_eq_true]
              exact ⟨spB_of gd, jobsB_of (sizeB_of n1' n7) (by simp) gj.ok⟩
            have q1 := implPlain_ok h7 (.agg #[.int .i64 (n : Int), b5]) z (n : Int) (toN (ordL n (turnR L))) (lateJ T D n) (.mk ((hb5.keep k6.1).keep ha3.1)) hjobs (by rw [toN_length]; have := ordL_len n (turnR L); have := bit7 n7; omega)
            rw [gvt] at q1
            obtain ⟨bc, hbc⟩ : ∃ x, x = bestC (n : Int) (toN (ordL n (turnR L))) (lateJ T D n) := ⟨_, rfl⟩
            have hbc2 : bc = (lateP T D R).2 := by
              rw [hR, hG, late_best gd gj, hbc, bestC, if_pos (show (spB (n : Int) (toN (ordL n (turnR L))) && jobsB (lateJ T D n) (n : Int)) = true from gvt), natsOf_toN]
              rfl
            rw [← hbc] at q1
            have hu17 := (hu1q.keep kq6).keep ha3.1
            try simp (disch := first | omega | (simp; done) | fail) [wrap64c, if_pos, if_neg, opAnd, opOr, opXor, opDiff, opShr, opBit, ntv, csv, ntw, csw, hbig, ntp, csp, lnp, ntt, cst, lnt, ntd, csd, lnd, ntu1, csu1, lnu1, ntu2, csu2, lnu2, c2, lnL, lnR, gtR, lnR2, lRn, ntpv, cspv, e5, e6, e7, e8, e9, e13, e71, e72, e73, hlt, e83, e84, e85, hlt2, e18, e103, e104, e105, hlt3, htn, hcq, ntb5, csb5, hu2c, g6, hz3, e21, e22, e23, e126, e127, e128, g7, hiT, ntz, csz]
            refine callG_c (by simp) (by simp) ?ha (q1) ?_
            (case ha => simp (disch := first | omega | (simp; done) | fail) [wrap64c, if_pos, if_neg, opAnd, opOr, opXor, opDiff, opShr, opBit, ntv, csv, ntw, csw, hbig, ntp, csp, lnp, ntt, cst, lnt, ntd, csd, lnd, ntu1, csu1, lnu1, ntu2, csu2, lnu2, c2, lnL, lnR, gtR, lnR2, lRn, ntpv, cspv, e5, e6, e7, e8, e9, e13, e71, e72, e73, hlt, e83, e84, e85, hlt2, e18, e103, e104, e105, hlt3, htn, hcq, ntb5, csb5, hu2c, g6, hz3, e21, e22, e23, e126, e127, e128, g7, hiT, ntz, csz])
            try simp (disch := first | omega | (simp; done) | fail) [wrap64c, if_pos, if_neg, opAnd, opOr, opXor, opDiff, opShr, opBit, ntv, csv, ntw, csw, hbig, ntp, csp, lnp, ntt, cst, lnt, ntd, csd, lnd, ntu1, csu1, lnu1, ntu2, csu2, lnu2, c2, lnL, lnR, gtR, lnR2, lRn, ntpv, cspv, e5, e6, e7, e8, e9, e13, e71, e72, e73, hlt, e83, e84, e85, hlt2, e18, e103, e104, e105, hlt3, htn, hcq, ntb5, csb5, hu2c, g6, hz3, e21, e22, e23, e126, e127, e128, g7, hiT, ntz, csz]
            refine WD_loopC [7, 8, 22, 26, 27, 150, 151] (fun m tm h' => ∃ i, m = n - i ∧ h7 = h' ∧ tm 28 = .int .i64 (lateP T D (R.take i)).1 ∧ tm 29 = .int .i64 (lateP T D (R.take i)).2 ∧ tm 152 = .int .i64 (i : Int) ∧ (i ≤ n)) _ ⟨0, rfl, rfl, (by simp [lateP]), (by simp [lateP]), (by simp (disch := first | omega | (simp; done) | fail) [wrap64c, if_pos, if_neg, opAnd, opOr, opXor, opDiff, opShr, opBit, ntv, csv, ntw, csw, hbig, ntp, csp, lnp, ntt, cst, lnt, ntd, csd, lnd, ntu1, csu1, lnu1, ntu2, csu2, lnu2, c2, lnL, lnR, gtR, lnR2, lRn, ntpv, cspv, e5, e6, e7, e8, e9, e13, e71, e72, e73, hlt, e83, e84, e85, hlt2, e18, e103, e104, e105, hlt3, htn, hcq, ntb5, csb5, hu2c, g6, hz3, e21, e22, e23, e126, e127, e128, g7, hiT, ntz, csz]), (by first | omega | assumption | (simp (disch := first | omega | (simp; done) | fail) [wrap64c, if_pos, if_neg, opAnd, opOr, opXor, opDiff, opShr, opBit, ntv, csv, ntw, csw, hbig, ntp, csp, lnp, ntt, cst, lnt, ntd, csd, lnd, ntu1, csu1, lnu1, ntu2, csu2, lnu2, c2, lnL, lnR, gtR, lnR2, lRn, ntpv, cspv, e5, e6, e7, e8, e9, e13, e71, e72, e73, hlt, e83, e84, e85, hlt2, e18, e103, e104, e105, hlt3, htn, hcq, ntb5, csb5, hu2c, g6, hz3, e21, e22, e23, e126, e127, e128, g7, hiT, ntz, csz] <;> omega))⟩ ?_
            rintro m tm h' hFr ⟨i, rfl, rfl, e28, e29, e152, hi⟩
            simp only [FrameL] at hFr
            obtain ⟨f7_4, f8_4, f22_4, f26_4, f27_4, f150_4, f151_4, -⟩ := hFr
            try simp (disch := first | omega | (simp; done) | fail) [wrap64c, if_pos, if_neg, opAnd, opOr, opXor, opDiff, opShr, opBit, ntv, csv, ntw, csw, hbig, ntp, csp, lnp, ntt, cst, lnt, ntd, csd, lnd, ntu1, csu1, lnu1, ntu2, csu2, lnu2, c2, lnL, lnR, gtR, lnR2, lRn, ntpv, cspv, e5, e6, e7, e8, e9, e13, e71, e72, e73, hlt, e83, e84, e85, hlt2, e18, e103, e104, e105, hlt3, htn, hcq, ntb5, csb5, hu2c, g6, hz3, e21, e22, e23, e126, e127, e128, g7, hiT, ntz, csz] at f7_4 f8_4 f22_4 f26_4 f27_4 f150_4 f151_4
            have e7 := f7_4
            have e8 := f8_4
            have e22 := f22_4
            have e26 := f26_4
            have e27 := f27_4
            have e150 := f150_4
            have e151 := f151_4
            obtain ⟨⟨c1, c3⟩, c4, c5⟩ := lateP_bd' bT bD (R.take i)
            rw [List.length_take] at c3 c5
            by_cases hlt5 : i < n
            · have hiR : i < R.length := by omega
              have hRi := ltR _ (List.getElem_mem hiR)
              have eS : lateP T D (R.take (i + 1)) = lateS T D (lateP T D (R.take i)) R[i] := by rw [List.take_succ_eq_append_getElem hiR, lateP_snoc]
              have hiT : R[i] < T.length := by omega
              have hiD : R[i] < D.length := by omega
              have eT : T.getD R[i] 0 = T[R[i]] := by rw [List.getD_eq_getElem?_getD, List.getElem?_eq_getElem hiT]; rfl
              have eD : D.getD R[i] 0 = D[R[i]] := by rw [List.getD_eq_getElem?_getD, List.getElem?_eq_getElem hiD]; rfl
              have bTi := bT _ (List.getElem_mem hiT)
              have bDi := bD _ (List.getElem_mem hiD)
              rw [lateS, eT, eD] at eS
              generalize hpa : (lateP T D (R.take i)).1 = a at *
              generalize hpb : (lateP T D (R.take i)).2 = m2 at *
              obtain ⟨o_x, i_x, c_x, cs_x, own_x, ex_x, es_x, q_x, b_x, g_x, l_x, r_x⟩ := hT7.open ((by omega))
              have z_x : ∀ h2 : i_x < cs_x.length, cs_x[i_x] = _ := fun h2 => r_x 0 ((by omega)) h2
              obtain ⟨o_y, i_y, c_y, cs_y, own_y, ex_y, es_y, q_y, b_y, g_y, l_y, r_y⟩ := hD7.open ((by omega))
              have z_y : ∀ h2 : i_y < cs_y.length, cs_y[i_y] = _ := fun h2 => r_y 0 ((by omega)) h2
              obtain ⟨o_o, i_o, c_o, cs_o, own_o, ex_o, es_o, q_o, b_o, g_o, l_o, r_o⟩ := hu17.open ((by omega))
              have z_o : ∀ h2 : i_o < cs_o.length, cs_o[i_o] = _ := fun h2 => r_o 0 ((by omega)) h2
              have zx := r_x R[i] (by omega)
              have zy := r_y R[i] (by omega)
              by_cases hgt : m2 < a + T[R[i]] - D[R[i]]
              · try simp (disch := first | omega | (simp; done) | fail) [wrap64c, if_pos, if_neg, opAnd, opOr, opXor, opDiff, opShr, opBit, ntv, csv, ntw, csw, hbig, ntp, csp, lnp, ntt, cst, lnt, ntd, csd, lnd, ntu1, csu1, lnu1, ntu2, csu2, lnu2, c2, lnL, lnR, gtR, lnR2, lRn, ntpv, cspv, e5, e6, e7, e8, e9, e13, e71, e72, e73, hlt, e83, e84, e85, hlt2, e18, e103, e104, e105, hlt3, htn, hcq, ntb5, csb5, hu2c, g6, hz3, e21, e22, e23, e126, e127, e128, g7, hiT, ntz, csz, e26, e27, e28, e29, e150, e151, e152, hlt5, q_x, g_x, l_x, r_x, z_x, q_y, g_y, l_y, r_y, z_y, q_o, g_o, l_o, r_o, z_o, zx, zy, hgt]
                refine loopK_next _ ?hm ?hf ⟨i + 1, rfl, rfl, (by rw [eS]; simp), (by rw [eS]; simp [hgt]), (by simp (disch := first | omega | (simp; done) | fail) [wrap64c, if_pos, if_neg, opAnd, opOr, opXor, opDiff, opShr, opBit, ntv, csv, ntw, csw, hbig, ntp, csp, lnp, ntt, cst, lnt, ntd, csd, lnd, ntu1, csu1, lnu1, ntu2, csu2, lnu2, c2, lnL, lnR, gtR, lnR2, lRn, ntpv, cspv, e5, e6, e7, e8, e9, e13, e71, e72, e73, hlt, e83, e84, e85, hlt2, e18, e103, e104, e105, hlt3, htn, hcq, ntb5, csb5, hu2c, g6, hz3, e21, e22, e23, e126, e127, e128, g7, hiT, ntz, csz, e26, e27, e28, e29, e150, e151, e152, hlt5, q_x, g_x, l_x, r_x, z_x, q_y, g_y, l_y, r_y, z_y, q_o, g_o, l_o, r_o, z_o, zx, zy, hgt] <;> omega), (by first | omega | assumption | (simp (disch := first | omega | (simp; done) | fail) [wrap64c, if_pos, if_neg, opAnd, opOr, opXor, opDiff, opShr, opBit, ntv, csv, ntw, csw, hbig, ntp, csp, lnp, ntt, cst, lnt, ntd, csd, lnd, ntu1, csu1, lnu1, ntu2, csu2, lnu2, c2, lnL, lnR, gtR, lnR2, lRn, ntpv, cspv, e5, e6, e7, e8, e9, e13, e71, e72, e73, hlt, e83, e84, e85, hlt2, e18, e103, e104, e105, hlt3, htn, hcq, ntb5, csb5, hu2c, g6, hz3, e21, e22, e23, e126, e127, e128, g7, hiT, ntz, csz, e26, e27, e28, e29, e150, e151, e152, hlt5, q_x, g_x, l_x, r_x, z_x, q_y, g_y, l_y, r_y, z_y, q_o, g_o, l_o, r_o, z_o, zx, zy, hgt] <;> omega))⟩
                (case hm => first | omega | (simp; omega))
                (case hf => simp [FrameL, ntv, csv, ntw, csw, hbig, ntp, csp, lnp, ntt, cst, lnt, ntd, csd, lnd, ntu1, csu1, lnu1, ntu2, csu2, lnu2, c2, lnL, lnR, gtR, lnR2, lRn, ntpv, cspv, e5, e6, e7, e8, e9, e13, e71, e72, e73, hlt, e83, e84, e85, hlt2, e18, e103, e104, e105, hlt3, htn, hcq, ntb5, csb5, hu2c, g6, hz3, e21, e22, e23, e126, e127, e128, g7, hiT, ntz, csz, e26, e27, e28, e29, e150, e151, e152, hlt5, q_x, g_x, l_x, r_x, z_x, q_y, g_y, l_y, r_y, z_y, q_o, g_o, l_o, r_o, z_o, zx, zy, hgt, f7_4, f8_4, f22_4, f26_4, f27_4, f150_4, f151_4])
              · try simp (disch := first | omega | (simp; done) | fail) [wrap64c, if_pos, if_neg, opAnd, opOr, opXor, opDiff, opShr, opBit, ntv, csv, ntw, csw, hbig, ntp, csp, lnp, ntt, cst, lnt, ntd, csd, lnd, ntu1, csu1, lnu1, ntu2, csu2, lnu2, c2, lnL, lnR, gtR, lnR2, lRn, ntpv, cspv, e5, e6, e7, e8, e9, e13, e71, e72, e73, hlt, e83, e84, e85, hlt2, e18, e103, e104, e105, hlt3, htn, hcq, ntb5, csb5, hu2c, g6, hz3, e21, e22, e23, e126, e127, e128, g7, hiT, ntz, csz, e26, e27, e28, e29, e150, e151, e152, hlt5, q_x, g_x, l_x, r_x, z_x, q_y, g_y, l_y, r_y, z_y, q_o, g_o, l_o, r_o, z_o, zx, zy, hgt]
                refine loopK_next _ ?hm ?hf ⟨i + 1, rfl, rfl, (by rw [eS]; simp), (by rw [eS]; simp [hgt, e29]), (by simp (disch := first | omega | (simp; done) | fail) [wrap64c, if_pos, if_neg, opAnd, opOr, opXor, opDiff, opShr, opBit, ntv, csv, ntw, csw, hbig, ntp, csp, lnp, ntt, cst, lnt, ntd, csd, lnd, ntu1, csu1, lnu1, ntu2, csu2, lnu2, c2, lnL, lnR, gtR, lnR2, lRn, ntpv, cspv, e5, e6, e7, e8, e9, e13, e71, e72, e73, hlt, e83, e84, e85, hlt2, e18, e103, e104, e105, hlt3, htn, hcq, ntb5, csb5, hu2c, g6, hz3, e21, e22, e23, e126, e127, e128, g7, hiT, ntz, csz, e26, e27, e28, e29, e150, e151, e152, hlt5, q_x, g_x, l_x, r_x, z_x, q_y, g_y, l_y, r_y, z_y, q_o, g_o, l_o, r_o, z_o, zx, zy, hgt] <;> omega), (by first | omega | assumption | (simp (disch := first | omega | (simp; done) | fail) [wrap64c, if_pos, if_neg, opAnd, opOr, opXor, opDiff, opShr, opBit, ntv, csv, ntw, csw, hbig, ntp, csp, lnp, ntt, cst, lnt, ntd, csd, lnd, ntu1, csu1, lnu1, ntu2, csu2, lnu2, c2, lnL, lnR, gtR, lnR2, lRn, ntpv, cspv, e5, e6, e7, e8, e9, e13, e71, e72, e73, hlt, e83, e84, e85, hlt2, e18, e103, e104, e105, hlt3, htn, hcq, ntb5, csb5, hu2c, g6, hz3, e21, e22, e23, e126, e127, e128, g7, hiT, ntz, csz, e26, e27, e28, e29, e150, e151, e152, hlt5, q_x, g_x, l_x, r_x, z_x, q_y, g_y, l_y, r_y, z_y, q_o, g_o, l_o, r_o, z_o, zx, zy, hgt] <;> omega))⟩
                (case hm => first | omega | (simp; omega))
                (case hf => simp [FrameL, ntv, csv, ntw, csw, hbig, ntp, csp, lnp, ntt, cst, lnt, ntd, csd, lnd, ntu1, csu1, lnu1, ntu2, csu2, lnu2, c2, lnL, lnR, gtR, lnR2, lRn, ntpv, cspv, e5, e6, e7, e8, e9, e13, e71, e72, e73, hlt, e83, e84, e85, hlt2, e18, e103, e104, e105, hlt3, htn, hcq, ntb5, csb5, hu2c, g6, hz3, e21, e22, e23, e126, e127, e128, g7, hiT, ntz, csz, e26, e27, e28, e29, e150, e151, e152, hlt5, q_x, g_x, l_x, r_x, z_x, q_y, g_y, l_y, r_y, z_y, q_o, g_o, l_o, r_o, z_o, zx, zy, hgt, f7_4, f8_4, f22_4, f26_4, f27_4, f150_4, f151_4])
            · have hft : R.take i = R := List.take_of_length_le (by omega)
              rw [hft] at e28 e29
              have e29' := e29
              try simp (disch := first | omega | (simp; done) | fail) [wrap64c, if_pos, if_neg, opAnd, opOr, opXor, opDiff, opShr, opBit, ntv, csv, ntw, csw, hbig, ntp, csp, lnp, ntt, cst, lnt, ntd, csd, lnd, ntu1, csu1, lnu1, ntu2, csu2, lnu2, c2, lnL, lnR, gtR, lnR2, lRn, ntpv, cspv, e5, e6, e7, e8, e9, e13, e71, e72, e73, hlt, e83, e84, e85, hlt2, e18, e103, e104, e105, hlt3, htn, hcq, ntb5, csb5, hu2c, g6, hz3, e21, e22, e23, e126, e127, e128, g7, hiT, ntz, csz, e26, e27, e28, e29, e150, e151, e152, hlt5, e29', hbc2]
              exact done_ret rfl (by simp [((K4.trans kq6).trans ha3.1)])
end Go.Proofs.Ytnncipcldbopgaa
namespace Go.Proofs.Ytnncipcldbopgaa
set_option linter.unusedSimpArgs false
set_option linter.unusedVariables false
open Go Go.Eng Go.ChangeShapes Go.WideShapes Go.ChangeAt Go.RowKit Go.Joins
set_option maxRecDepth 100000 in
theorem lateJobs_lifted (os : Os) (started : os.Started) (H : Type) (enc : TypeId × Value → H) :
    ReturnsInHanded {} Try.checked os 10 .any (Rows.fnLateJobsSpec.pre6 enc Try.prog Try.f10 Rows.fnLateJobsRow.domain false) (Rows.fnLateJobsSpec.post enc Try.prog Try.f10 false true false false) := by
  refine returnsInHanded_of_change (C := Try.checked) own started (by kernel_rfl) Try.func10
    (ChangeSpec.witness6 (enc := enc) (C := Try.checked) false ⟨#[], #[.slice none 0 0, .slice none 0 0], []⟩ 8 (by kernel_rfl) (by kernel_rfl) (by kernel_rfl) (by kernel_rfl)) ?_
  intro W base args ds gs before hval0 hW hcnd _
  have hval : ∀ (j : Nat) t v, Try.f10.params[j]? = some t → args[j]? = some v → Value.okWide Try.prog W .any base t v := hval0
  have hW' := hW
  obtain ⟨p, q, hA0, hV, rfl, hfz, hnd⟩ := hW
  have hA : DataW.TrodAll enc Try.prog W 0 (fun _ => true) true Try.f10.params.toList args.toList ds p := hA0
  rw [Try.params10] at hA hval
  obtain ⟨v0, v1, d0, d1, p0, p1, rfl, rfl, rfl, h0, h1⟩ := trodAll_two hA
  obtain ⟨rfl, rfl⟩ := trodVars_none hV
  simp only [List.append_nil] at hW'
  have lt0 : ∀ x ∈ p0, x.block < W.heap.size := by obtain ⟨m, hm⟩ := h0; exact DataW.trod_lt m _ _ _ hm
  have lt1 : ∀ x ∈ p1, x.block < W.heap.size := by obtain ⟨m, hm⟩ := h1; exact DataW.trod_lt m _ _ _ hm
  obtain ⟨E0, hh0, a0, X0, st0, m0, hva0, hc0⟩ := lay_bytes (hval 0 22 v0 rfl rfl) h0 (start0 W)
  obtain ⟨E1, hh1, a1, X1, st1, m1, hva1, hc1⟩ := lay_bytes (hval 1 22 v1 rfl rfl) h1 st0
  replace hva0 := m1.vrel _ _ hva0
  replace hc0 := hc0.keep m1.keep
  refine (law_calls (args := #[a0, a1]) (args' := #[v0, v1]) st1 rfl (fun i hi => ?_) (lawLateJobs_ok hh1 a0 X0 hc0 a1 X1 hc1) rfl).mono fun e W' ⟨he, bel⟩ => ?_
  · have : i = 0 ∨ i = 1 := by simp at hi; omega
    rcases this with rfl | rfl
    · exact hva0
    · exact hva1
  · subst he
    exact ⟨_, rfl, _, _, _, [], _, [], hW', trodAll_mk1 (shut_bool Try.underlying4 _), trodAll_mk2 (Below.trod laidOut (by kernel_rfl) (of_decide_eq_true (by kernel_rfl)) h0 bel lt0) (Below.trod laidOut (by kernel_rfl) (of_decide_eq_true (by kernel_rfl)) h1 bel lt1), rfl, bel.frame _, fun h => by cases h⟩
theorem lateJobs_holds : Rows.FnLateJobsSaid :=
  OpenClaim.holds_of_wide 10 Try.f10 rfl rfl rfl rfl rfl rfl rfl ⟨rfl, rfl, rfl, rfl, rfl⟩ rfl rfl rfl rfl rfl (by kernel_rfl) Try.func10 (by kernel_rfl)
    (of_decide_eq_true (by kernel_rfl)) (by unfold Func.isWrapper; first | (rw [if_pos (by decide +kernel)]; kernel_rfl) | (rw [if_neg (by decide +kernel)]; exact ⟨rfl, rfl⟩))
    (fun os started H enc _ => lateJobs_lifted os started H enc)
end Go.Proofs.Ytnncipcldbopgaa
