/- Late jobs, by the reference. -/
import Derived.Test.YtnjabaeajjhliaaT33
namespace Go.Proofs.Ytnjabaeajjhliaa
set_option linter.unusedSimpArgs false
set_option linter.unusedVariables false
set_option maxHeartbeats 4000000
open Go Go.Eng
attribute [local irreducible] WD RunD PreD Runs CallOK

theorem pairsB_turn {N : Int} {L : List (List Int)} (h2 : ∀ x ∈ L, x.length = 2) (h : pairsB N (turnR L) = true) : pairsB N L = true := by
  obtain ⟨a, b⟩ := pairsB_all h
  refine pairsB_of (by simpa [turnR] using a) fun x hx => ?_
  have := b [x.getD 1 0, x.getD 0 0] (List.mem_map.2 ⟨x, hx, rfl⟩)
  match x, h2 x hx with
  | [c, d], _ =>
    simp only [pairB, List.length_cons, List.length_nil, List.getD_cons_zero, List.getD_cons_succ, Bool.and_eq_true, decide_eq_true_eq, Bool.not_eq_true', decide_eq_false_iff_not] at this ⊢
    exact ⟨trivial, this.2.2.1, this.2.1, fun e => this.2.2.2 e.symm⟩

theorem specLate_ok (h : Hp) (v w u : Value) (L : List (List Int)) (N : Int) (T D : List Int) (hv : IRows h v L) (hw : Ints h w T) (hu : Ints h u D) :
    ∃ v' h', CallOK Try.prog 45 #[.int .i64 N, v, w, u] h v' h' ∧ Adds h h' ∧ ∃ r, v' = .tuple #[r, .bool (lateB N L T D)] ∧ IntsO (Btw h.next h'.next) h' r (lateR N L T D) := by
  have hnt := hv.nt
  have hcs := hv.cs
  have ntw := hw.nt
  have csw := hw.cs
  have ntu := hu.nt
  have csu := hu.cs
  have lL := hv.lenD
  have lT := hw.lenD
  have lD := hu.lenD
  have hLl := hv.len
  cases c1 : sizeB N
  · have hk : givenB N L T D = false := by simp [givenB, c1]
    refine callY_L (args := [.int .i64 N, v, w, u]) 114 _ [.tmp 8, .tmp 9] Try.func45 rfl rfl rfl ?_
    try simp (disch := first | omega | (simp; done) | fail) [wrap64c, if_pos, if_neg, opAnd, opOr, opXor, opDiff, opShr, opBit, hnt, hcs, ntw, csw, ntu, csu, lL, lT, lD, c1]
    refine callG_c (by simp) (by simp) ?ha (spItems_ok _ N) ?_
    (case ha => simp (disch := first | omega | (simp; done) | fail) [wrap64c, if_pos, if_neg, opAnd, opOr, opXor, opDiff, opShr, opBit, hnt, hcs, ntw, csw, ntu, csu, lL, lT, lD, c1])
    try simp (disch := first | omega | (simp; done) | fail) [wrap64c, if_pos, if_neg, opAnd, opOr, opXor, opDiff, opShr, opBit, hnt, hcs, ntw, csw, ntu, csu, lL, lT, lD, c1]
    exact done_ret rfl ⟨(by first | exact aK | exact kK), _, by rw [lateB_no hk]; rfl, by rw [lateR_no (lateB_no hk)]; exact .nil _ _⟩
  obtain ⟨n, rfl, n1, n7⟩ := sizeB_true c1
  by_cases h40 : L.length ≤ 40
  case neg =>
    have h40' : ¬ (L.length : Int) ≤ 40 := by omega
    have hk : givenB n L T D = false := by simp [givenB, c1, pairsB, h40]
    refine callY_L (args := [.int .i64 (n : Int), v, w, u]) 114 _ [.tmp 8, .tmp 9] Try.func45 rfl rfl rfl ?_
    try simp (disch := first | omega | (simp; done) | fail) [wrap64c, if_pos, if_neg, opAnd, opOr, opXor, opDiff, opShr, opBit, hnt, hcs, ntw, csw, ntu, csu, lL, lT, lD, c1, h40']
    refine callG_c (by simp) (by simp) ?ha (spItems_ok _ n) ?_
    (case ha => simp (disch := first | omega | (simp; done) | fail) [wrap64c, if_pos, if_neg, opAnd, opOr, opXor, opDiff, opShr, opBit, hnt, hcs, ntw, csw, ntu, csu, lL, lT, lD, c1, h40'])
    try simp (disch := first | omega | (simp; done) | fail) [wrap64c, if_pos, if_neg, opAnd, opOr, opXor, opDiff, opShr, opBit, hnt, hcs, ntw, csw, ntu, csu, lL, lT, lD, c1, h40']
    exact done_ret rfl ⟨(by first | exact aK | exact kK), _, by rw [lateB_no hk]; rfl, by rw [lateR_no (lateB_no hk)]; exact .nil _ _⟩
  have h40' : (L.length : Int) ≤ 40 := by omega
  by_cases c3 : T.length = n
  case neg =>
    have c3' : ((T.length : Int) != (n : Int)) = true := by simp [c3]
    have hk : givenB n L T D = false := by simp [givenB, c3]
    refine callY_L (args := [.int .i64 (n : Int), v, w, u]) 114 _ [.tmp 8, .tmp 9] Try.func45 rfl rfl rfl ?_
    try simp (disch := first | omega | (simp; done) | fail) [wrap64c, if_pos, if_neg, opAnd, opOr, opXor, opDiff, opShr, opBit, hnt, hcs, ntw, csw, ntu, csu, lL, lT, lD, c1, h40', c3']
    refine callG_c (by simp) (by simp) ?ha (spItems_ok _ n) ?_
    (case ha => simp (disch := first | omega | (simp; done) | fail) [wrap64c, if_pos, if_neg, opAnd, opOr, opXor, opDiff, opShr, opBit, hnt, hcs, ntw, csw, ntu, csu, lL, lT, lD, c1, h40', c3'])
    try simp (disch := first | omega | (simp; done) | fail) [wrap64c, if_pos, if_neg, opAnd, opOr, opXor, opDiff, opShr, opBit, hnt, hcs, ntw, csw, ntu, csu, lL, lT, lD, c1, h40', c3']
    exact done_ret rfl ⟨(by first | exact aK | exact kK), _, by rw [lateB_no hk]; rfl, by rw [lateR_no (lateB_no hk)]; exact .nil _ _⟩
  by_cases c4 : D.length = n
  case neg =>
    have c4' : ((D.length : Int) != (n : Int)) = true := by simp [c4]
    have hk : givenB n L T D = false := by simp [givenB, c4]
    refine callY_L (args := [.int .i64 (n : Int), v, w, u]) 114 _ [.tmp 8, .tmp 9] Try.func45 rfl rfl rfl ?_
    try simp (disch := first | omega | (simp; done) | fail) [wrap64c, if_pos, if_neg, opAnd, opOr, opXor, opDiff, opShr, opBit, hnt, hcs, ntw, csw, ntu, csu, lL, lT, lD, c1, h40', c4', c3]
    refine callG_c (by simp) (by simp) ?ha (spItems_ok _ n) ?_
    (case ha => simp (disch := first | omega | (simp; done) | fail) [wrap64c, if_pos, if_neg, opAnd, opOr, opXor, opDiff, opShr, opBit, hnt, hcs, ntw, csw, ntu, csu, lL, lT, lD, c1, h40', c4'])
    try simp (disch := first | omega | (simp; done) | fail) [wrap64c, if_pos, if_neg, opAnd, opOr, opXor, opDiff, opShr, opBit, hnt, hcs, ntw, csw, ntu, csu, lL, lT, lD, c1, h40', c4', c3]
    exact done_ret rfl ⟨(by first | exact aK | exact kK), _, by rw [lateB_no hk]; rfl, by rw [lateR_no (lateB_no hk)]; exact .nil _ _⟩
  have k1 := l1All_ok h w T 1 9 hw
  have k2 := l1All_ok h u D 0 100 hu
  by_cases hT : ∀ x ∈ T, 1 ≤ x ∧ x ≤ 9
  case neg =>
    rw [decide_eq_false hT] at k1
    have hk : givenB n L T D = false := by rw [givenB, decide_eq_false hT]; simp
    refine callY_L (args := [.int .i64 (n : Int), v, w, u]) 114 _ [.tmp 8, .tmp 9] Try.func45 rfl rfl rfl ?_
    try simp (disch := first | omega | (simp; done) | fail) [wrap64c, if_pos, if_neg, opAnd, opOr, opXor, opDiff, opShr, opBit, hnt, hcs, ntw, csw, ntu, csu, lL, lT, lD, c1, h40', c3, c4]
    refine callG_c (by simp) (by simp) ?ha (spItems_ok _ n) ?_
    (case ha => simp (disch := first | omega | (simp; done) | fail) [wrap64c, if_pos, if_neg, opAnd, opOr, opXor, opDiff, opShr, opBit, hnt, hcs, ntw, csw, ntu, csu, lL, lT, lD, c1, h40'])
    try simp (disch := first | omega | (simp; done) | fail) [wrap64c, if_pos, if_neg, opAnd, opOr, opXor, opDiff, opShr, opBit, hnt, hcs, ntw, csw, ntu, csu, lL, lT, lD, c1, h40', c3, c4]
    refine callG_c (by simp) (by simp) ?ha (k1) ?_
    (case ha => simp (disch := first | omega | (simp; done) | fail) [wrap64c, if_pos, if_neg, opAnd, opOr, opXor, opDiff, opShr, opBit, hnt, hcs, ntw, csw, ntu, csu, lL, lT, lD, c1, h40', c3, c4])
    try simp (disch := first | omega | (simp; done) | fail) [wrap64c, if_pos, if_neg, opAnd, opOr, opXor, opDiff, opShr, opBit, hnt, hcs, ntw, csw, ntu, csu, lL, lT, lD, c1, h40', c3, c4]
    exact done_ret rfl ⟨(by first | exact aK | exact kK), _, by rw [lateB_no hk]; rfl, by rw [lateR_no (lateB_no hk)]; exact .nil _ _⟩
  rw [decide_eq_true hT] at k1
  by_cases hD : ∀ x ∈ D, 0 ≤ x ∧ x ≤ 100
  case neg =>
    rw [decide_eq_false hD] at k2
    have hk : givenB n L T D = false := by rw [givenB, decide_eq_false hD]; simp
    refine callY_L (args := [.int .i64 (n : Int), v, w, u]) 114 _ [.tmp 8, .tmp 9] Try.func45 rfl rfl rfl ?_
    try simp (disch := first | omega | (simp; done) | fail) [wrap64c, if_pos, if_neg, opAnd, opOr, opXor, opDiff, opShr, opBit, hnt, hcs, ntw, csw, ntu, csu, lL, lT, lD, c1, h40', c3, c4]
    refine callG_c (by simp) (by simp) ?ha (spItems_ok _ n) ?_
    (case ha => simp (disch := first | omega | (simp; done) | fail) [wrap64c, if_pos, if_neg, opAnd, opOr, opXor, opDiff, opShr, opBit, hnt, hcs, ntw, csw, ntu, csu, lL, lT, lD, c1, h40'])
    try simp (disch := first | omega | (simp; done) | fail) [wrap64c, if_pos, if_neg, opAnd, opOr, opXor, opDiff, opShr, opBit, hnt, hcs, ntw, csw, ntu, csu, lL, lT, lD, c1, h40', c3, c4]
    refine callG_c (by simp) (by simp) ?ha (k1) ?_
    (case ha => simp (disch := first | omega | (simp; done) | fail) [wrap64c, if_pos, if_neg, opAnd, opOr, opXor, opDiff, opShr, opBit, hnt, hcs, ntw, csw, ntu, csu, lL, lT, lD, c1, h40', c3, c4])
    try simp (disch := first | omega | (simp; done) | fail) [wrap64c, if_pos, if_neg, opAnd, opOr, opXor, opDiff, opShr, opBit, hnt, hcs, ntw, csw, ntu, csu, lL, lT, lD, c1, h40', c3, c4]
    refine callG_c (by simp) (by simp) ?ha (k2) ?_
    (case ha => simp (disch := first | omega | (simp; done) | fail) [wrap64c, if_pos, if_neg, opAnd, opOr, opXor, opDiff, opShr, opBit, hnt, hcs, ntw, csw, ntu, csu, lL, lT, lD, c1, h40', c3, c4])
    try simp (disch := first | omega | (simp; done) | fail) [wrap64c, if_pos, if_neg, opAnd, opOr, opXor, opDiff, opShr, opBit, hnt, hcs, ntw, csw, ntu, csu, lL, lT, lD, c1, h40', c3, c4]
    exact done_ret rfl ⟨(by first | exact aK | exact kK), _, by rw [lateB_no hk]; rfl, by rw [lateR_no (lateB_no hk)]; exact .nil _ _⟩
  rw [decide_eq_true hD] at k2
  have hz3 : zarr #[Value.int .i64 0, Value.int .i64 0, Value.int .i64 0] 3 = #[Value.int .i64 0, Value.int .i64 0, Value.int .i64 0] := zarr3_3 _ _ _
  refine callY_L (args := [.int .i64 (n : Int), v, w, u]) 114 _ [.tmp 8, .tmp 9] Try.func45 rfl rfl rfl ?_
  try simp (disch := first | omega | (simp; done) | fail) [wrap64c, if_pos, if_neg, opAnd, opOr, opXor, opDiff, opShr, opBit, hnt, hcs, ntw, csw, ntu, csu, lL, lT, lD, c1, h40', hz3, c3, c4]
  refine callG_c (by simp) (by simp) ?ha (spItems_ok _ n) ?_
  (case ha => simp (disch := first | omega | (simp; done) | fail) [wrap64c, if_pos, if_neg, opAnd, opOr, opXor, opDiff, opShr, opBit, hnt, hcs, ntw, csw, ntu, csu, lL, lT, lD, c1, h40', hz3])
  try simp (disch := first | omega | (simp; done) | fail) [wrap64c, if_pos, if_neg, opAnd, opOr, opXor, opDiff, opShr, opBit, hnt, hcs, ntw, csw, ntu, csu, lL, lT, lD, c1, h40', hz3, c3, c4]
  refine callG_c (by simp) (by simp) ?ha (k1) ?_
  (case ha => simp (disch := first | omega | (simp; done) | fail) [wrap64c, if_pos, if_neg, opAnd, opOr, opXor, opDiff, opShr, opBit, hnt, hcs, ntw, csw, ntu, csu, lL, lT, lD, c1, h40', hz3, c3, c4])
  try simp (disch := first | omega | (simp; done) | fail) [wrap64c, if_pos, if_neg, opAnd, opOr, opXor, opDiff, opShr, opBit, hnt, hcs, ntw, csw, ntu, csu, lL, lT, lD, c1, h40', hz3, c3, c4]
  refine callG_c (by simp) (by simp) ?ha (k2) ?_
  (case ha => simp (disch := first | omega | (simp; done) | fail) [wrap64c, if_pos, if_neg, opAnd, opOr, opXor, opDiff, opShr, opBit, hnt, hcs, ntw, csw, ntu, csu, lL, lT, lD, c1, h40', hz3, c3, c4])
  try simp (disch := first | omega | (simp; done) | fail) [wrap64c, if_pos, if_neg, opAnd, opOr, opXor, opDiff, opShr, opBit, hnt, hcs, ntw, csw, ntu, csu, lL, lT, lD, c1, h40', hz3, c3, c4]
  refine WD_loopC [0, 2, 3, 51, 52] (fun m tm h' => ∃ i t, m = L.length - i ∧ tm 10 = t ∧ tm 53 = .int .i64 (i : Int) ∧ (i ≤ L.length) ∧ (Adds h h') ∧ (IRowsA h.next h' t (turnR (L.take i))) ∧ (∀ k (hk : k < L.length), k < i → L[k].length = 2)) _ ⟨0, .slice none 0 0, rfl, (by simp (disch := first | omega | (simp; done) | fail) [wrap64c, if_pos, if_neg, opAnd, opOr, opXor, opDiff, opShr, opBit, hnt, hcs, ntw, csw, ntu, csu, lL, lT, lD, c1, h40', hz3]), (by simp (disch := first | omega | (simp; done) | fail) [wrap64c, if_pos, if_neg, opAnd, opOr, opXor, opDiff, opShr, opBit, hnt, hcs, ntw, csw, ntu, csu, lL, lT, lD, c1, h40', hz3]), (by first | omega | assumption | (simp (disch := first | omega | (simp; done) | fail) [wrap64c, if_pos, if_neg, opAnd, opOr, opXor, opDiff, opShr, opBit, hnt, hcs, ntw, csw, ntu, csu, lL, lT, lD, c1, h40', hz3] <;> omega)), (by first | exact aK | exact kK), (.nil _ _), (fun k hk h0 => by omega)⟩ ?_
  rintro m tm h' hFr ⟨i, t, rfl, e10, e53, hi, ha2, hr, h2⟩
  simp only [FrameL] at hFr
  obtain ⟨f0_0, f2_0, f3_0, f51_0, f52_0, -⟩ := hFr
  try simp (disch := first | omega | (simp; done) | fail) [wrap64c, if_pos, if_neg, opAnd, opOr, opXor, opDiff, opShr, opBit, hnt, hcs, ntw, csw, ntu, csu, lL, lT, lD, c1, h40', hz3] at f0_0 f2_0 f3_0 f51_0 f52_0
  have e0 := f0_0
  have e2 := f2_0
  have e3 := f3_0
  have e51 := f51_0
  have e52 := f52_0
  rename Hp => hp
  have hv2 := hv.keep ha2.1
  have hm2 := ha2.1.1
  by_cases hlt2 : i < L.length
  · obtain ⟨o_x, i_x, c_x, cs_x, own_x, ex_x, es_x, us_x, q_x, b_x, g_x, l_x, r_x, R_x⟩ := hv2.open ((by omega))
    have z_x : ∀ h2 : i_x < cs_x.length, cs_x[i_x] = _ := fun h2 => r_x 0 ((by omega)) h2
    have hR := R_x i hlt2
    have hRl := hR.lenD
    by_cases hl2 : L[i].length = 2
    case neg =>
      have hl2' : ((L[i].length : Int) != 2) = true := by simp; omega
      try simp (disch := first | omega | (simp; done) | fail) [wrap64c, if_pos, if_neg, opAnd, opOr, opXor, opDiff, opShr, opBit, hnt, hcs, ntw, csw, ntu, csu, lL, lT, lD, c1, h40', hz3, e0, e2, e3, e10, e51, e52, e53, hlt2, q_x, g_x, l_x, r_x, z_x, hRl, hl2', c3, c4]
      have hk : givenB n L T D = false := by
        cases hp2 : pairsB n L
        · simp [givenB, hp2]
        · have := (pairsB_all hp2).2 _ (List.getElem_mem hlt2)
          simp [pairB, hl2] at this
      exact done_ret rfl ⟨(by first | exact aK | exact kK), _, by rw [lateB_no hk]; rfl, by rw [lateR_no (lateB_no hk)]; exact .nil _ _⟩
    obtain ⟨c, d, hcd⟩ : ∃ c d, L[i] = [c, d] := by
      match L[i], hl2 with
      | [c, d], _ => exact ⟨c, d, rfl⟩
    rw [hcd] at hR hRl
    obtain ⟨o_y, i_y, c_y, cs_y, own_y, ex_y, es_y, q_y, b_y, g_y, l_y, r_y⟩ := hR.open ((by simp))
    have z_y : ∀ h2 : i_y < cs_y.length, cs_y[i_y] = _ := fun h2 => r_y 0 ((by simp)) h2
    have l2_y : i_y + 1 < cs_y.length := by have := l_y; simp at this; omega
    have l3_y : i_y < cs_y.length := by omega
    have z2_y := r_y 1 (by simp)
    have htl : (turnR (L.take i)).length ≤ i := by simp [turnR]; omega
    have hts := turnR_succ L hlt2
    simp only [hcd, List.getD_cons_zero, List.getD_cons_succ] at hts
    have htn := hr.nt
    try simp (disch := first | omega | (simp; done) | fail) [wrap64c, if_pos, if_neg, opAnd, opOr, opXor, opDiff, opShr, opBit, hnt, hcs, ntw, csw, ntu, csu, lL, lT, lD, c1, h40', hz3, e0, e2, e3, e10, e51, e52, e53, hlt2, q_x, g_x, l_x, r_x, z_x, hRl, q_y, g_y, l_y, r_y, z_y, l2_y, l3_y, z2_y, htn, c3, c4]
    refine WD_drawC 9 rfl (by kernel_rfl) ?_
    try simp (disch := first | omega | (simp; done) | fail) [wrap64c, if_pos, if_neg, opAnd, opOr, opXor, opDiff, opShr, opBit, hnt, hcs, ntw, csw, ntu, csu, lL, lT, lD, c1, h40', hz3, e0, e2, e3, e10, e51, e52, e53, hlt2, q_x, g_x, l_x, r_x, z_x, hRl, q_y, g_y, l_y, r_y, z_y, l2_y, l3_y, z2_y, htn, c3, c4]
    obtain ⟨t2, h3, hap, hr3, ha3, hn3, _⟩ := appP hr d c (by omega) (by omega) ha2 (Nat.le_refl _)
    try simp (disch := first | omega | (simp; done) | fail) [wrap64c, if_pos, if_neg, opAnd, opOr, opXor, opDiff, opShr, opBit, hnt, hcs, ntw, csw, ntu, csu, lL, lT, lD, c1, h40', hz3, e0, e2, e3, e10, e51, e52, e53, hlt2, q_x, g_x, l_x, r_x, z_x, hRl, q_y, g_y, l_y, r_y, z_y, l2_y, l3_y, z2_y, htn, hap, c3, c4]
    refine loopK_next _ ?hm ?hf ⟨i + 1, t2, rfl, (by simp (disch := first | omega | (simp; done) | fail) [wrap64c, if_pos, if_neg, opAnd, opOr, opXor, opDiff, opShr, opBit, hnt, hcs, ntw, csw, ntu, csu, lL, lT, lD, c1, h40', hz3, e0, e2, e3, e10, e51, e52, e53, hlt2, q_x, g_x, l_x, r_x, z_x, hRl, q_y, g_y, l_y, r_y, z_y, l2_y, l3_y, z2_y, htn] <;> omega), (by simp (disch := first | omega | (simp; done) | fail) [wrap64c, if_pos, if_neg, opAnd, opOr, opXor, opDiff, opShr, opBit, hnt, hcs, ntw, csw, ntu, csu, lL, lT, lD, c1, h40', hz3, e0, e2, e3, e10, e51, e52, e53, hlt2, q_x, g_x, l_x, r_x, z_x, hRl, q_y, g_y, l_y, r_y, z_y, l2_y, l3_y, z2_y, htn] <;> omega), (by first | omega | assumption | (simp (disch := first | omega | (simp; done) | fail) [wrap64c, if_pos, if_neg, opAnd, opOr, opXor, opDiff, opShr, opBit, hnt, hcs, ntw, csw, ntu, csu, lL, lT, lD, c1, h40', hz3, e0, e2, e3, e10, e51, e52, e53, hlt2, q_x, g_x, l_x, r_x, z_x, hRl, q_y, g_y, l_y, r_y, z_y, l2_y, l3_y, z2_y, htn] <;> omega)), ha3, (by rw [hts]; exact hr3), ?c_h2⟩
    (case hm => first | omega | (simp; omega))
    (case hf => simp [FrameL, hnt, hcs, ntw, csw, ntu, csu, lL, lT, lD, c1, h40', hz3, e0, e2, e3, e10, e51, e52, e53, hlt2, q_x, g_x, l_x, r_x, z_x, hRl, q_y, g_y, l_y, r_y, z_y, l2_y, l3_y, z2_y, htn, f0_0, f2_0, f3_0, f51_0, f52_0])
    case c_h2 =>
      exact (fun k hk h0 => by
        by_cases e : k = i
        · subst e; exact hl2
        · exact h2 k hk (by omega))
  have hie : i = L.length := by omega
  subst hie
  have hL2 : ∀ x ∈ L, x.length = 2 := fun x hx' => by
    obtain ⟨k, hk, rfl⟩ := List.getElem_of_mem hx'
    exact h2 k hk hk
  rw [List.take_length] at hr
  have hrows := (hr.own (by simp [turnR]; omega)).rows
  have hvt := hr.nt
  have hct := hrows.cs
  obtain ⟨w5, h5, hc5, ha5, sp, rfl, hsp⟩ := specOrder_ok hp t (turnR L) n hrows
  have A5 := ha2.trans ha5
  have hm5 := ha5.1.1
  have hmA := A5.1.1
  obtain ⟨b5, rfl, hb5⟩ := hsp
  have ntb := hb5.nt
  have csb := hb5.cs
  have hlx := hb5.ints.len
  try simp (disch := first | omega | (simp; done) | fail) [wrap64c, if_pos, if_neg, opAnd, opOr, opXor, opDiff, opShr, opBit, hnt, hcs, ntw, csw, ntu, csu, lL, lT, lD, c1, h40', hz3, e0, e2, e3, e10, e51, e52, e53, hlt2, hvt, hct, ntb, csb, c3, c4]
  refine callG_c (by simp) (by simp) ?ha (hc5) ?_
  (case ha => simp (disch := first | omega | (simp; done) | fail) [wrap64c, if_pos, if_neg, opAnd, opOr, opXor, opDiff, opShr, opBit, hnt, hcs, ntw, csw, ntu, csu, lL, lT, lD, c1, h40', hz3, e0, e2, e3, e10, e51, e52, e53, hlt2, hvt, hct, ntb, csb, c3, c4])
  cases hok : ordOK n (turnR L)
  · have hk : lateB n L T D = false := by rw [lateB, hok]; simp
    try simp (disch := first | omega | (simp; done) | fail) [wrap64c, if_pos, if_neg, opAnd, opOr, opXor, opDiff, opShr, opBit, hnt, hcs, ntw, csw, ntu, csu, lL, lT, lD, c1, h40', hz3, e0, e2, e3, e10, e51, e52, e53, hlt2, hvt, hct, ntb, csb, hok, c3, c4]
    exact done_ret rfl ⟨(by first | exact aK | exact kK), _, by rw [hk]; rfl, by rw [lateR_no hk]; exact .nil _ _⟩
  have hpt : pairsB n (turnR L) = true := by
    have := hok
    simp only [ordOK, Bool.and_eq_true] at this
    exact this.1.2
  have hgv : givenB n L T D = true := by
    simp only [givenB, c1, pairsB_turn hL2 hpt, c3, c4, Bool.true_and, decide_true, Bool.and_eq_true, decide_eq_true_eq]
    exact ⟨hT, hD⟩
  have hk : lateB n L T D = true := by rw [lateB, hok, hgv]; rfl
  have hOX : ordX n (turnR L) = toN (ordL n (turnR L)) := by unfold ordX; rw [if_pos hok]; simp
  have hON : ordN n (turnR L) = (n : Int) := by unfold ordN; rw [if_pos hok]
  have hsb : spB (n : Int) (toN (ordL n (turnR L))) = true := by
    have := hok
    simp only [ordOK, Bool.and_eq_true] at this
    simpa using this.2
  obtain ⟨m, ys, y1, y2, g⟩ := spB_true hsb
  have y3 : n = m := by omega
  subst y3
  have y4 : ys = ordL n (turnR L) := by have := congrArg natsOf y2; simpa [natsOf_toN] using this.symm
  subst y4
  rw [hOX] at hb5
  have gj := lateJ_ok n7 c3 c4 hT hD
  try simp (disch := first | omega | (simp; done) | fail) [wrap64c, if_pos, if_neg, opAnd, opOr, opXor, opDiff, opShr, opBit, hnt, hcs, ntw, csw, ntu, csu, lL, lT, lD, c1, h40', hz3, e0, e2, e3, e10, e51, e52, e53, hlt2, hvt, hct, ntb, csb, hok, c3, c4, hON, putCells]
  refine WD_loopC [0, 3, 13, 79, 80] (fun m tm h' => ∃ j q, m = n - j ∧ tm 15 = q ∧ tm 81 = .int .i64 (j : Int) ∧ (j ≤ n) ∧ (Adds h5 h') ∧ (GL 3 jobR (h5.next + 1) h' q (lateJ T D j)) ∧ (h'.get h5.next = .cells [.int .i64 n, b5] true true 1) ∧ (h5.next + 1 ≤ h'.next)) _ ⟨0, .slice none 0 0, rfl, (by simp (disch := first | omega | (simp; done) | fail) [wrap64c, if_pos, if_neg, opAnd, opOr, opXor, opDiff, opShr, opBit, hnt, hcs, ntw, csw, ntu, csu, lL, lT, lD, c1, h40', hz3, e0, e2, e3, e10, e51, e52, e53, hlt2, hvt, hct, ntb, csb, hok]), (by simp (disch := first | omega | (simp; done) | fail) [wrap64c, if_pos, if_neg, opAnd, opOr, opXor, opDiff, opShr, opBit, hnt, hcs, ntw, csw, ntu, csu, lL, lT, lD, c1, h40', hz3, e0, e2, e3, e10, e51, e52, e53, hlt2, hvt, hct, ntb, csb, hok]), (by first | omega | assumption | (simp (disch := first | omega | (simp; done) | fail) [wrap64c, if_pos, if_neg, opAnd, opOr, opXor, opDiff, opShr, opBit, hnt, hcs, ntw, csw, ntu, csu, lL, lT, lD, c1, h40', hz3, e0, e2, e3, e10, e51, e52, e53, hlt2, hvt, hct, ntb, csb, hok] <;> omega)), (by first | exact aK | exact kK), (.nil _ _), (by simp [putCells]), (by simp)⟩ ?_
  rintro m tm h' hFr ⟨j, q, rfl, e15, e81, hj, ha, hg, gb, hnn⟩
  simp only [FrameL] at hFr
  obtain ⟨f0_1, f3_1, f13_1, f79_1, f80_1, -⟩ := hFr
  try simp (disch := first | omega | (simp; done) | fail) [wrap64c, if_pos, if_neg, opAnd, opOr, opXor, opDiff, opShr, opBit, hnt, hcs, ntw, csw, ntu, csu, lL, lT, lD, c1, h40', hz3, e0, e2, e3, e10, e51, e52, e53, hlt2, hvt, hct, ntb, csb, hok] at f0_1 f3_1 f13_1 f79_1 f80_1
  have e0 := f0_1
  have e3 := f3_1
  have e13 := f13_1
  have e79 := f79_1
  have e80 := f80_1
  rename Hp => hq
  have hw3 := hw.keep (A5.trans ha).1
  have hu3 := hu.keep (A5.trans ha).1
  by_cases hlt : j < n
  · have hjT : j < T.length := by omega
    have hjD : j < D.length := by omega
    obtain ⟨o_x, i_x, c_x, cs_x, own_x, ex_x, es_x, q_x, b_x, g_x, l_x, r_x⟩ := hw3.open ((by omega))
    have z_x : ∀ h2 : i_x < cs_x.length, cs_x[i_x] = _ := fun h2 => r_x 0 ((by omega)) h2
    obtain ⟨o_y, i_y, c_y, cs_y, own_y, ex_y, es_y, q_y, b_y, g_y, l_y, r_y⟩ := hu3.open ((by omega))
    have z_y : ∀ h2 : i_y < cs_y.length, cs_y[i_y] = _ := fun h2 => r_y 0 ((by omega)) h2
    have htj := hT _ (List.getElem_mem hjT)
    have hdj := hD _ (List.getElem_mem hjD)
    have ntq := hg.nt
    try simp (disch := first | omega | (simp; done) | fail) [wrap64c, if_pos, if_neg, opAnd, opOr, opXor, opDiff, opShr, opBit, hnt, hcs, ntw, csw, ntu, csu, lL, lT, lD, c1, h40', hz3, e0, e2, e3, e10, e51, e52, e53, hlt2, hvt, hct, ntb, csb, hok, e13, e15, e79, e80, e81, gb, hlt, hjT, hjD, q_x, g_x, l_x, r_x, z_x, q_y, g_y, l_y, r_y, z_y, ntq, c3, c4]
    obtain ⟨q2, h6, hap, hg2, ha6, hn6, hs6⟩ := appJ hg (⟨T[j], 1, -D[j]⟩ : Job) (by simp; omega) hnn ha (by omega)
    try simp (disch := first | omega | (simp; done) | fail) [wrap64c, if_pos, if_neg, opAnd, opOr, opXor, opDiff, opShr, opBit, hnt, hcs, ntw, csw, ntu, csu, lL, lT, lD, c1, h40', hz3, e0, e2, e3, e10, e51, e52, e53, hlt2, hvt, hct, ntb, csb, hok, e13, e15, e79, e80, e81, gb, hlt, hjT, hjD, q_x, g_x, l_x, r_x, z_x, q_y, g_y, l_y, r_y, z_y, ntq, hap, c3, c4]
    refine loopK_next _ ?hm ?hf ⟨j + 1, q2, rfl, (by simp (disch := first | omega | (simp; done) | fail) [wrap64c, if_pos, if_neg, opAnd, opOr, opXor, opDiff, opShr, opBit, hnt, hcs, ntw, csw, ntu, csu, lL, lT, lD, c1, h40', hz3, e0, e2, e3, e10, e51, e52, e53, hlt2, hvt, hct, ntb, csb, hok, e13, e15, e79, e80, e81, gb, hlt, hjT, hjD, q_x, g_x, l_x, r_x, z_x, q_y, g_y, l_y, r_y, z_y, ntq] <;> omega), (by simp (disch := first | omega | (simp; done) | fail) [wrap64c, if_pos, if_neg, opAnd, opOr, opXor, opDiff, opShr, opBit, hnt, hcs, ntw, csw, ntu, csu, lL, lT, lD, c1, h40', hz3, e0, e2, e3, e10, e51, e52, e53, hlt2, hvt, hct, ntb, csb, hok, e13, e15, e79, e80, e81, gb, hlt, hjT, hjD, q_x, g_x, l_x, r_x, z_x, q_y, g_y, l_y, r_y, z_y, ntq] <;> omega), (by first | omega | assumption | (simp (disch := first | omega | (simp; done) | fail) [wrap64c, if_pos, if_neg, opAnd, opOr, opXor, opDiff, opShr, opBit, hnt, hcs, ntw, csw, ntu, csu, lL, lT, lD, c1, h40', hz3, e0, e2, e3, e10, e51, e52, e53, hlt2, hvt, hct, ntb, csb, hok, e13, e15, e79, e80, e81, gb, hlt, hjT, hjD, q_x, g_x, l_x, r_x, z_x, q_y, g_y, l_y, r_y, z_y, ntq] <;> omega)), ha6, (by rw [lateJ_succ]; simpa [List.getD_eq_getElem?_getD, hjT, hjD] using hg2), (by rw [hs6 _ (by omega) (by omega)]; exact gb), (by first | omega | assumption | (simp (disch := first | omega | (simp; done) | fail) [wrap64c, if_pos, if_neg, opAnd, opOr, opXor, opDiff, opShr, opBit, hnt, hcs, ntw, csw, ntu, csu, lL, lT, lD, c1, h40', hz3, e0, e2, e3, e10, e51, e52, e53, hlt2, hvt, hct, ntb, csb, hok, e13, e15, e79, e80, e81, gb, hlt, hjT, hjD, q_x, g_x, l_x, r_x, z_x, q_y, g_y, l_y, r_y, z_y, ntq] <;> omega))⟩
    (case hm => first | omega | (simp; omega))
    (case hf => simp [FrameL, hnt, hcs, ntw, csw, ntu, csu, lL, lT, lD, c1, h40', hz3, e0, e2, e3, e10, e51, e52, e53, hlt2, hvt, hct, ntb, csb, hok, e13, e15, e79, e80, e81, gb, hlt, hjT, hjD, q_x, g_x, l_x, r_x, z_x, q_y, g_y, l_y, r_y, z_y, ntq, f0_1, f3_1, f13_1, f79_1, f80_1])
  have hje : j = n := by omega
  subst hje
  have hjobs := jobs_of hg (by simp; omega)
  have ntq := hg.nt
  have hm6 := ha.1.1
  obtain ⟨u7, h7, hc7, ha7, hi7⟩ := grGreedy_ok hq (.agg #[.int .i64 (j : Int), b5]) q j (ordL j (turnR L)) (lateJ T D j) (.mk (hb5.keep ha.1).ints) hjobs g gj (by simp)
  have hm7 := ha7.1.1
  have nt7 := hi7.nt
  have hgl := greedN_len (costN (lateJ T D j)) (ordL j (turnR L)) j
  have hR : lateR j L T D = toN (greedN (costN (lateJ T D j)) (ordL j (turnR L)) j).reverse := by rw [lateR, if_pos hk]; simp
  obtain ⟨W, hW⟩ : ∃ W, W = greedN (costN (lateJ T D j)) (ordL j (turnR L)) j := ⟨_, rfl⟩
  rw [← hW] at hgl hi7 hR
  have hgt := toN_get W
  have hln := toN_length W
  try simp (disch := first | omega | (simp; done) | fail) [wrap64c, if_pos, if_neg, opAnd, opOr, opXor, opDiff, opShr, opBit, hnt, hcs, ntw, csw, ntu, csu, lL, lT, lD, c1, h40', hz3, e0, e2, e3, e10, e51, e52, e53, hlt2, hvt, hct, ntb, csb, hok, e13, e15, e79, e80, e81, gb, hlt, ntq, nt7, hgt, c3, c4]
  refine callG_c (by simp) (by simp) ?ha (hc7) ?_
  (case ha => simp (disch := first | omega | (simp; done) | fail) [wrap64c, if_pos, if_neg, opAnd, opOr, opXor, opDiff, opShr, opBit, hnt, hcs, ntw, csw, ntu, csu, lL, lT, lD, c1, h40', hz3, e0, e2, e3, e10, e51, e52, e53, hlt2, hvt, hct, ntb, csb, hok, e13, e15, e79, e80, e81, gb, hlt, ntq, nt7, hgt, c3, c4])
  try simp (disch := first | omega | (simp; done) | fail) [wrap64c, if_pos, if_neg, opAnd, opOr, opXor, opDiff, opShr, opBit, hnt, hcs, ntw, csw, ntu, csu, lL, lT, lD, c1, h40', hz3, e0, e2, e3, e10, e51, e52, e53, hlt2, hvt, hct, ntb, csb, hok, e13, e15, e79, e80, e81, gb, hlt, ntq, nt7, hgt, c3, c4]
  refine WD_loopC [18] (fun m tm h' => ∃ k r, m = j - k ∧ tm 19 = r ∧ tm 20 = .int .i64 ((j : Int) - 1 - k) ∧ (k ≤ j) ∧ (Adds h7 h') ∧ (IntsA h7.next h' r (toN (W.reverse.take k)))) _ ⟨0, .slice none 0 0, rfl, (by simp (disch := first | omega | (simp; done) | fail) [wrap64c, if_pos, if_neg, opAnd, opOr, opXor, opDiff, opShr, opBit, hnt, hcs, ntw, csw, ntu, csu, lL, lT, lD, c1, h40', hz3, e0, e2, e3, e10, e51, e52, e53, hlt2, hvt, hct, ntb, csb, hok, e13, e15, e79, e80, e81, gb, hlt, ntq, nt7, hgt]), (by simp (disch := first | omega | (simp; done) | fail) [wrap64c, if_pos, if_neg, opAnd, opOr, opXor, opDiff, opShr, opBit, hnt, hcs, ntw, csw, ntu, csu, lL, lT, lD, c1, h40', hz3, e0, e2, e3, e10, e51, e52, e53, hlt2, hvt, hct, ntb, csb, hok, e13, e15, e79, e80, e81, gb, hlt, ntq, nt7, hgt]), (by first | omega | assumption | (simp (disch := first | omega | (simp; done) | fail) [wrap64c, if_pos, if_neg, opAnd, opOr, opXor, opDiff, opShr, opBit, hnt, hcs, ntw, csw, ntu, csu, lL, lT, lD, c1, h40', hz3, e0, e2, e3, e10, e51, e52, e53, hlt2, hvt, hct, ntb, csb, hok, e13, e15, e79, e80, e81, gb, hlt, ntq, nt7, hgt] <;> omega)), (by first | exact aK | exact kK), (.nil _ _)⟩ ?_
  rintro m tm h' hFr ⟨k, r, rfl, e19, e20, hkj, ha8, hr8⟩
  simp only [FrameL] at hFr
  obtain ⟨f18_2, -⟩ := hFr
  try simp (disch := first | omega | (simp; done) | fail) [wrap64c, if_pos, if_neg, opAnd, opOr, opXor, opDiff, opShr, opBit, hnt, hcs, ntw, csw, ntu, csu, lL, lT, lD, c1, h40', hz3, e0, e2, e3, e10, e51, e52, e53, hlt2, hvt, hct, ntb, csb, hok, e13, e15, e79, e80, e81, gb, hlt, ntq, nt7, hgt] at f18_2
  have e18 := f18_2
  rename Hp => h8
  have ntr := hr8.nt
  by_cases hlk : k < j
  · have hkx : ((j : Int) - 1 - k) = ((j - 1 - k : Nat) : Int) := by omega
    have hkl : j - 1 - k < W.length := by omega
    have hn8 := ha8.1.1
    obtain ⟨o_x, i_x, c_x, cs_x, own_x, ex_x, es_x, q_x, b_x, g_x, l_x, r_x⟩ := ((hi7.ints).keep ha8.1).open ((by omega))
    have z_x : ∀ h2 : i_x < cs_x.length, cs_x[i_x] = _ := fun h2 => r_x 0 ((by omega)) h2
    try simp (disch := first | omega | (simp; done) | fail) [wrap64c, if_pos, if_neg, opAnd, opOr, opXor, opDiff, opShr, opBit, hnt, hcs, ntw, csw, ntu, csu, lL, lT, lD, c1, h40', hz3, e0, e2, e3, e10, e51, e52, e53, hlt2, hvt, hct, ntb, csb, hok, e13, e15, e79, e80, e81, gb, hlt, ntq, nt7, hgt, e18, e19, e20, ntr, hkx, q_x, g_x, l_x, r_x, z_x]
    obtain ⟨r2, h9, hap, hr9, ha9, hn9, _⟩ := appI hr8 ((W[j - 1 - k] : Nat) : Int) (by simp; omega) (by omega) ha8 (Nat.le_refl _)
    have htk : W.reverse.take (k + 1) = W.reverse.take k ++ [W[j - 1 - k]] := by
      rw [List.take_succ_eq_append_getElem (by simp; omega), List.getElem_reverse]
      simp only [hgl]
    try simp (disch := first | omega | (simp; done) | fail) [wrap64c, if_pos, if_neg, opAnd, opOr, opXor, opDiff, opShr, opBit, hnt, hcs, ntw, csw, ntu, csu, lL, lT, lD, c1, h40', hz3, e0, e2, e3, e10, e51, e52, e53, hlt2, hvt, hct, ntb, csb, hok, e13, e15, e79, e80, e81, gb, hlt, ntq, nt7, hgt, e18, e19, e20, ntr, hkx, q_x, g_x, l_x, r_x, z_x, hap]
    refine loopK_next _ ?hm ?hf ⟨k + 1, r2, rfl, (by simp (disch := first | omega | (simp; done) | fail) [wrap64c, if_pos, if_neg, opAnd, opOr, opXor, opDiff, opShr, opBit, hnt, hcs, ntw, csw, ntu, csu, lL, lT, lD, c1, h40', hz3, e0, e2, e3, e10, e51, e52, e53, hlt2, hvt, hct, ntb, csb, hok, e13, e15, e79, e80, e81, gb, hlt, ntq, nt7, hgt, e18, e19, e20, ntr, hkx, q_x, g_x, l_x, r_x, z_x] <;> omega), (by simp (disch := first | omega | (simp; done) | fail) [wrap64c, if_pos, if_neg, opAnd, opOr, opXor, opDiff, opShr, opBit, hnt, hcs, ntw, csw, ntu, csu, lL, lT, lD, c1, h40', hz3, e0, e2, e3, e10, e51, e52, e53, hlt2, hvt, hct, ntb, csb, hok, e13, e15, e79, e80, e81, gb, hlt, ntq, nt7, hgt, e18, e19, e20, ntr, hkx, q_x, g_x, l_x, r_x, z_x] <;> omega), (by first | omega | assumption | (simp (disch := first | omega | (simp; done) | fail) [wrap64c, if_pos, if_neg, opAnd, opOr, opXor, opDiff, opShr, opBit, hnt, hcs, ntw, csw, ntu, csu, lL, lT, lD, c1, h40', hz3, e0, e2, e3, e10, e51, e52, e53, hlt2, hvt, hct, ntb, csb, hok, e13, e15, e79, e80, e81, gb, hlt, ntq, nt7, hgt, e18, e19, e20, ntr, hkx, q_x, g_x, l_x, r_x, z_x] <;> omega)), ha9, (by rw [htk, toN_snoc]; exact hr9)⟩
    (case hm => first | omega | (simp; omega))
    (case hf => simp [FrameL, hnt, hcs, ntw, csw, ntu, csu, lL, lT, lD, c1, h40', hz3, e0, e2, e3, e10, e51, e52, e53, hlt2, hvt, hct, ntb, csb, hok, e13, e15, e79, e80, e81, gb, hlt, ntq, nt7, hgt, e18, e19, e20, ntr, hkx, q_x, g_x, l_x, r_x, z_x, f18_2])
  · have hke : k = j := by omega
    have hkx : ¬ (0 : Int) ≤ (j : Int) - 1 - k := by omega
    try simp (disch := first | omega | (simp; done) | fail) [wrap64c, if_pos, if_neg, opAnd, opOr, opXor, opDiff, opShr, opBit, hnt, hcs, ntw, csw, ntu, csu, lL, lT, lD, c1, h40', hz3, e0, e2, e3, e10, e51, e52, e53, hlt2, hvt, hct, ntb, csb, hok, e13, e15, e79, e80, e81, gb, hlt, ntq, nt7, hgt, e18, e19, e20, ntr, hkx]
    rw [hke, List.take_of_length_le (by simp; omega)] at hr8
    have A9 := ((A5.trans ha).trans ha7).trans ha8
    refine done_ret rfl ⟨A9, r, by rw [hk]; rfl, ?_⟩
    rw [hR]
    exact (hr8.own (by simp; omega)).sub fun o ho => ⟨by have := ho.1; have := ha7.1.1; omega, ho.2⟩
theorem lateR_len (N : Int) (L : List (List Int)) (T D : List Int) : (lateR N L T D).length ≤ 7 := by
  unfold lateR
  split
  · rename_i hk
    have : sizeB N = true := by
      simp only [lateB, givenB, Bool.and_eq_true] at hk
      exact hk.1.1
    obtain ⟨n, rfl, n1, n7⟩ := sizeB_true this
    simp; omega
  · simp
end Go.Proofs.Ytnjabaeajjhliaa
