/- The space of an order, by the reference (OrderSpace). -/
import Derived.Test.YtnjabaeajjhliaaT30
namespace Go.Proofs.Ytnjabaeajjhliaa
set_option linter.unusedSimpArgs false
set_option linter.unusedVariables false
set_option maxHeartbeats 4000000
open Go Go.Eng
attribute [local irreducible] WD RunD PreD Runs CallOK

theorem pairB_two {N a b : Int} : pairB N [a, b] = (decide (∀ x ∈ [a, b], 0 ≤ x ∧ x ≤ N - 1) && !(a == b)) := by
  rw [Bool.eq_iff_iff]
  simp [pairB, and_assoc]
theorem ordOK_no {N : Int} {L : List (List Int)} (c1 : sizeB N = true) {j : Nat} (hj : j < L.length) (hp : pairB N L[j] = false) : ordOK N L = false := by
  have : (L.any fun x => !pairB N x) = true := List.any_eq_true.2 ⟨_, List.getElem_mem hj, by rw [hp]; rfl⟩
  simp [ordOK, pairsB, this]
theorem pairsB_of {N : Int} {L : List (List Int)} (h : L.length ≤ 40) (hp : ∀ x ∈ L, pairB N x = true) : pairsB N L = true := by
  unfold pairsB
  simp only [Bool.and_eq_true, decide_eq_true_eq, Bool.not_eq_true', List.any_eq_false]
  exact ⟨h, fun x hx => by rw [hp x hx]; simp⟩
theorem pair_two {n : Nat} {x : List Int} (h : pairB n x = true) : ∃ c d : Nat, c < n ∧ d < n ∧ x = [(c : Int), (d : Int)] := by
  unfold pairB at h
  simp only [Bool.and_eq_true, decide_eq_true_eq] at h
  obtain ⟨h2, ⟨p1, p2⟩, ⟨p3, p4⟩, _⟩ := h
  match x, h2 with
  | [c, d], _ =>
    simp at p1 p2 p3 p4
    exact ⟨c.toNat, d.toNat, by omega, by omega, by simp; omega⟩
theorem specOrder_ok (h : Hp) (v : Value) (L : List (List Int)) (N : Int) (hv : IRows h v L) :
    ∃ v' h', CallOK Try.prog 96 #[.int .i64 N, v] h v' h' ∧ Adds h h' ∧ ∃ u, v' = .tuple #[u, .bool (ordOK N L)] ∧ SpaceO (Btw h.next h'.next) h' u (ordN N L) (ordX N L) := by
  have hnt := hv.nt
  have hcs := hv.cs
  have hL := hv.lenD
  have hs := hv.len
  cases c1 : sizeB N
  · have hk : ordOK N L = false := by simp [ordOK, c1]
    refine callY_L (args := [.int .i64 N, v]) 91 _ [.cell 4 32, .tmp 5] Try.func96 rfl rfl rfl ?_
    try simp (disch := first | omega | (simp; done) | fail) [wrap64c, if_pos, if_neg, opAnd, opOr, opXor, opDiff, opShr, opBit, hnt, hcs, hL, c1, hk]
    refine callG_c (by simp) (by simp) ?ha (spItems_ok _ N) ?_
    (case ha => simp (disch := first | omega | (simp; done) | fail) [wrap64c, if_pos, if_neg, opAnd, opOr, opXor, opDiff, opShr, opBit, hnt, hcs, hL, c1, hk])
    try simp (disch := first | omega | (simp; done) | fail) [wrap64c, if_pos, if_neg, opAnd, opOr, opXor, opDiff, opShr, opBit, hnt, hcs, hL, c1, hk, putCells]
    refine done_ret (by simp [putCells]; rfl) ⟨(by first | exact aK | exact kK), .agg #[.int .i64 0, .slice none 0 0], by simp [hk], ?_⟩
    simp only [ordN, ordX, hk]
    exact ⟨_, rfl, .nil _ _⟩
  · obtain ⟨n, rfl, n1, n7⟩ := sizeB_true c1
    by_cases h40 : L.length ≤ 40
    case neg =>
      have h40' : ¬ (L.length : Int) ≤ 40 := by omega
      have hk : ordOK n L = false := by simp [ordOK, c1, pairsB, h40]
      refine callY_L (args := [.int .i64 (n : Int), v]) 91 _ [.cell 4 32, .tmp 5] Try.func96 rfl rfl rfl ?_
      try simp (disch := first | omega | (simp; done) | fail) [wrap64c, if_pos, if_neg, opAnd, opOr, opXor, opDiff, opShr, opBit, hnt, hcs, hL, c1, h40', hk]
      refine callG_c (by simp) (by simp) ?ha (spItems_ok _ n) ?_
      (case ha => simp (disch := first | omega | (simp; done) | fail) [wrap64c, if_pos, if_neg, opAnd, opOr, opXor, opDiff, opShr, opBit, hnt, hcs, hL, c1, h40', hk])
      try simp (disch := first | omega | (simp; done) | fail) [wrap64c, if_pos, if_neg, opAnd, opOr, opXor, opDiff, opShr, opBit, hnt, hcs, hL, c1, h40', hk, putCells]
      refine done_ret (by simp [putCells]; rfl) ⟨(by first | exact aK | exact kK), .agg #[.int .i64 0, .slice none 0 0], by simp [hk], ?_⟩
      simp only [ordN, ordX, hk]
      exact ⟨_, rfl, .nil _ _⟩
    have h40' : (L.length : Int) ≤ 40 := by omega
    refine callY_L (args := [.int .i64 (n : Int), v]) 91 _ [.cell 4 32, .tmp 5] Try.func96 rfl rfl rfl ?_
    try simp (disch := first | omega | (simp; done) | fail) [wrap64c, if_pos, if_neg, opAnd, opOr, opXor, opDiff, opShr, opBit, hnt, hcs, hL, c1, h40']
    refine callG_c (by simp) (by simp) ?ha (spItems_ok _ n) ?_
    (case ha => simp (disch := first | omega | (simp; done) | fail) [wrap64c, if_pos, if_neg, opAnd, opOr, opXor, opDiff, opShr, opBit, hnt, hcs, hL, c1, h40'])
    try simp (disch := first | omega | (simp; done) | fail) [wrap64c, if_pos, if_neg, opAnd, opOr, opXor, opDiff, opShr, opBit, hnt, hcs, hL, c1, h40']
    refine WD_loopC [0, 1, 4, 22, 23] (fun m tm h' => ∃ j, m = L.length - j ∧ tm 24 = .int .i64 (j : Int) ∧ (j ≤ L.length) ∧ (Adds h h') ∧ (h'.next = h.next + 1) ∧ (h'.get h.next = .cells [.int .i64 0, .slice none 0 0] true true 1) ∧ (∀ i (hi : i < L.length), i < j → pairB n L[i] = true)) _ ⟨0, rfl, (by simp (disch := first | omega | (simp; done) | fail) [wrap64c, if_pos, if_neg, opAnd, opOr, opXor, opDiff, opShr, opBit, hnt, hcs, hL, c1, h40']), (by first | omega | assumption | (simp (disch := first | omega | (simp; done) | fail) [wrap64c, if_pos, if_neg, opAnd, opOr, opXor, opDiff, opShr, opBit, hnt, hcs, hL, c1, h40'] <;> omega)), (by first | exact aK | exact kK), (by simp), (by simp), (fun i hi h0 => by omega)⟩ ?_
    rintro m tm h' hFr ⟨j, rfl, e24, hj, ha, hn1, hg, hx⟩
    simp only [FrameL] at hFr
    obtain ⟨f0_0, f1_0, f4_0, f22_0, f23_0, -⟩ := hFr
    try simp (disch := first | omega | (simp; done) | fail) [wrap64c, if_pos, if_neg, opAnd, opOr, opXor, opDiff, opShr, opBit, hnt, hcs, hL, c1, h40'] at f0_0 f1_0 f4_0 f22_0 f23_0
    have e0 := f0_0
    have e1 := f1_0
    have e4 := f4_0
    have e22 := f22_0
    have e23 := f23_0
    rename Hp => hq
    have hv1 := hv.keep ha.1
    by_cases hlt : j < L.length
    · obtain ⟨o_x, i_x, c_x, cs_x, own_x, ex_x, es_x, us_x, q_x, b_x, g_x, l_x, r_x, R_x⟩ := hv1.open ((by omega))
      have z_x : ∀ h2 : i_x < cs_x.length, cs_x[i_x] = _ := fun h2 => r_x 0 ((by omega)) h2
      try simp (disch := first | omega | (simp; done) | fail) [wrap64c, if_pos, if_neg, opAnd, opOr, opXor, opDiff, opShr, opBit, hnt, hcs, hL, c1, h40', e0, e1, e4, e22, e23, e24, hg, hlt, q_x, g_x, l_x, r_x, z_x]
      refine WD_drawC 19 rfl (by kernel_rfl) ?_
      by_cases h2 : L[j].length = 2
      · obtain ⟨a, b, hab⟩ : ∃ a b, L[j] = [a, b] := by
          match L[j], h2 with
          | [a, b], _ => exact ⟨a, b, rfl⟩
        have hR := R_x j hlt
        rw [hab] at hR
        have hLj := hR.lenD
        obtain ⟨o_y, i_y, c_y, cs_y, own_y, ex_y, es_y, q_y, b_y, g_y, l_y, r_y⟩ := hR.open ((by simp))
        have z_y : ∀ h2 : i_y < cs_y.length, cs_y[i_y] = _ := fun h2 => r_y 0 ((by simp)) h2
        have l2_y : i_y + 1 < cs_y.length := by have := l_y; simp at this; omega
        have l3_y : i_y < cs_y.length := by omega
        have z2_y := r_y 1 (by simp)
        try simp (disch := first | omega | (simp; done) | fail) [wrap64c, if_pos, if_neg, opAnd, opOr, opXor, opDiff, opShr, opBit, hnt, hcs, hL, c1, h40', e0, e1, e4, e22, e23, e24, hg, hlt, q_x, g_x, l_x, r_x, z_x, hLj, q_y, g_y, l_y, r_y, z_y, l2_y, l3_y, z2_y]
        refine callP_c (by simp) (by simp) ?ha (l1All_ok hq (us_x j) [a, b] 0 (n - 1) hR) ?hadd ?_
        (case ha => simp (disch := first | omega | (simp; done) | fail) [wrap64c, if_pos, if_neg, opAnd, opOr, opXor, opDiff, opShr, opBit, hnt, hcs, hL, c1, h40', e0, e1, e4, e22, e23, e24, hg, hlt, q_x, g_x, l_x, r_x, z_x, hLj, q_y, g_y, l_y, r_y, z_y, l2_y, l3_y, z2_y])
        (case hadd => first | assumption | exact adds_self _ | (simp; done))
        cases d1 : decide (∀ x ∈ [a, b], 0 ≤ x ∧ x ≤ (n : Int) - 1)
        · have hp : pairB n L[j] = false := by rw [hab, pairB_two, d1]; rfl
          have hk := ordOK_no c1 hlt hp
          try simp (disch := first | omega | (simp; done) | fail) [wrap64c, if_pos, if_neg, opAnd, opOr, opXor, opDiff, opShr, opBit, hnt, hcs, hL, c1, h40', e0, e1, e4, e22, e23, e24, hg, hlt, q_x, g_x, l_x, r_x, z_x, hLj, q_y, g_y, l_y, r_y, z_y, l2_y, l3_y, z2_y, d1, hk, putCells]
          refine done_ret (by simp [putCells, e4]; rfl) ⟨(by first | exact aK | exact kK), .agg #[.int .i64 0, .slice none 0 0], by simp [hk], ?_⟩
          simp only [ordN, ordX, hk]
          exact ⟨_, rfl, .nil _ _⟩
        · cases d2 : (a == b)
          · have hp : pairB n L[j] = true := by rw [hab, pairB_two, d1, d2]; rfl
            try simp (disch := first | omega | (simp; done) | fail) [wrap64c, if_pos, if_neg, opAnd, opOr, opXor, opDiff, opShr, opBit, hnt, hcs, hL, c1, h40', e0, e1, e4, e22, e23, e24, hg, hlt, q_x, g_x, l_x, r_x, z_x, hLj, q_y, g_y, l_y, r_y, z_y, l2_y, l3_y, z2_y, d1, d2]
            refine loopK_next _ ?hm ?hf ⟨j + 1, rfl, (by simp (disch := first | omega | (simp; done) | fail) [wrap64c, if_pos, if_neg, opAnd, opOr, opXor, opDiff, opShr, opBit, hnt, hcs, hL, c1, h40', e0, e1, e4, e22, e23, e24, hg, hlt, q_x, g_x, l_x, r_x, z_x, hLj, q_y, g_y, l_y, r_y, z_y, l2_y, l3_y, z2_y, d1, d2] <;> omega), (by first | omega | assumption | (simp (disch := first | omega | (simp; done) | fail) [wrap64c, if_pos, if_neg, opAnd, opOr, opXor, opDiff, opShr, opBit, hnt, hcs, hL, c1, h40', e0, e1, e4, e22, e23, e24, hg, hlt, q_x, g_x, l_x, r_x, z_x, hLj, q_y, g_y, l_y, r_y, z_y, l2_y, l3_y, z2_y, d1, d2] <;> omega)), (by first | omega | assumption | (simp (disch := first | omega | (simp; done) | fail) [wrap64c, if_pos, if_neg, opAnd, opOr, opXor, opDiff, opShr, opBit, hnt, hcs, hL, c1, h40', e0, e1, e4, e22, e23, e24, hg, hlt, q_x, g_x, l_x, r_x, z_x, hLj, q_y, g_y, l_y, r_y, z_y, l2_y, l3_y, z2_y, d1, d2] <;> omega)), (by first | omega | assumption | (simp (disch := first | omega | (simp; done) | fail) [wrap64c, if_pos, if_neg, opAnd, opOr, opXor, opDiff, opShr, opBit, hnt, hcs, hL, c1, h40', e0, e1, e4, e22, e23, e24, hg, hlt, q_x, g_x, l_x, r_x, z_x, hLj, q_y, g_y, l_y, r_y, z_y, l2_y, l3_y, z2_y, d1, d2] <;> omega)), (by first | omega | assumption | (simp (disch := first | omega | (simp; done) | fail) [wrap64c, if_pos, if_neg, opAnd, opOr, opXor, opDiff, opShr, opBit, hnt, hcs, hL, c1, h40', e0, e1, e4, e22, e23, e24, hg, hlt, q_x, g_x, l_x, r_x, z_x, hLj, q_y, g_y, l_y, r_y, z_y, l2_y, l3_y, z2_y, d1, d2] <;> omega)), ?c_hx⟩
            (case hm => first | omega | (simp; omega))
            (case hf => simp [FrameL, hnt, hcs, hL, c1, h40', e0, e1, e4, e22, e23, e24, hg, hlt, q_x, g_x, l_x, r_x, z_x, hLj, q_y, g_y, l_y, r_y, z_y, l2_y, l3_y, z2_y, d1, d2, f0_0, f1_0, f4_0, f22_0, f23_0])
            case c_hx =>
              exact (fun i hi h1 => by
                by_cases e : i = j
                · subst e; exact hp
                · exact hx i hi (by omega))
          · have hp : pairB n L[j] = false := by rw [hab, pairB_two, d1, d2]; rfl
            have hk := ordOK_no c1 hlt hp
            try simp (disch := first | omega | (simp; done) | fail) [wrap64c, if_pos, if_neg, opAnd, opOr, opXor, opDiff, opShr, opBit, hnt, hcs, hL, c1, h40', e0, e1, e4, e22, e23, e24, hg, hlt, q_x, g_x, l_x, r_x, z_x, hLj, q_y, g_y, l_y, r_y, z_y, l2_y, l3_y, z2_y, d1, d2, hk, putCells]
            refine done_ret (by simp [putCells, e4]; rfl) ⟨(by first | exact aK | exact kK), .agg #[.int .i64 0, .slice none 0 0], by simp [hk], ?_⟩
            simp only [ordN, ordX, hk]
            exact ⟨_, rfl, .nil _ _⟩
      · have h2' : ((L[j].length : Int) != 2) = true := by simp; omega
        have hp : pairB n L[j] = false := by simp [pairB, h2]
        have hk := ordOK_no c1 hlt hp
        have hLj := (R_x j hlt).lenD
        try simp (disch := first | omega | (simp; done) | fail) [wrap64c, if_pos, if_neg, opAnd, opOr, opXor, opDiff, opShr, opBit, hnt, hcs, hL, c1, h40', e0, e1, e4, e22, e23, e24, hg, hlt, q_x, g_x, l_x, r_x, z_x, h2', hk, hLj, putCells]
        refine done_ret (by simp [putCells, e4]; rfl) ⟨(by first | exact aK | exact kK), .agg #[.int .i64 0, .slice none 0 0], by simp [hk], ?_⟩
        simp only [ordN, ordX, hk]
        exact ⟨_, rfl, .nil _ _⟩
    · have hje : j = L.length := by omega
      have hall : ∀ x ∈ L, pairB n x = true := fun x hx' => by
        obtain ⟨k, hk, rfl⟩ := List.getElem_of_mem hx'
        exact hx k hk (by omega)
      have c2 := pairsB_of h40 hall
      have hb7 := bit7 n7
      try simp (disch := first | omega | (simp; done) | fail) [wrap64c, if_pos, if_neg, opAnd, opOr, opXor, opDiff, opShr, opBit, hnt, hcs, hL, c1, h40', e0, e1, e4, e22, e23, e24, hg, hlt, putCells]
      refine WD_loopC [0, 1, 4, 8] (fun m tm h' => ∃ a w, m = bit n - a ∧ tm 9 = .int .i64 (a : Int) ∧ (a ≤ bit n) ∧ (Adds hq h') ∧ (IntsA (hq.next + 1) h' w (toN (famK (keepsB L) a))) ∧ (h'.get hq.next = .cells [.int .i64 (n : Int), w] true true 1) ∧ (hq.next + 1 ≤ h'.next)) _ ⟨0, .slice none 0 0, rfl, (by simp (disch := first | omega | (simp; done) | fail) [wrap64c, if_pos, if_neg, opAnd, opOr, opXor, opDiff, opShr, opBit, hnt, hcs, hL, c1, h40', e0, e1, e4, e22, e23, e24, hg, hlt]), (by first | omega | assumption | (simp (disch := first | omega | (simp; done) | fail) [wrap64c, if_pos, if_neg, opAnd, opOr, opXor, opDiff, opShr, opBit, hnt, hcs, hL, c1, h40', e0, e1, e4, e22, e23, e24, hg, hlt] <;> omega)), (by first | exact aK | exact kK), (.nil _ _), (by simp), (by simp)⟩ ?_
      rintro m tm h' hFr ⟨a, w, rfl, e9, hb, ha2, hw, hg2, hnn⟩
      simp only [FrameL] at hFr
      obtain ⟨f0_1, f1_1, f4_1, f8_1, -⟩ := hFr
      try simp (disch := first | omega | (simp; done) | fail) [wrap64c, if_pos, if_neg, opAnd, opOr, opXor, opDiff, opShr, opBit, hnt, hcs, hL, c1, h40', e0, e1, e4, e22, e23, e24, hg, hlt] at f0_1 f1_1 f4_1 f8_1
      have e0 := f0_1
      have e1 := f1_1
      have e4 := f4_1
      have e8 := f8_1
      rename Hp => hq2
      have hv2 := (hv.keep ha.1).keep ha2.1
      have hkl : (famK (keepsB L) a).length ≤ a := by
        have := List.length_filter_le (keepsB L) (List.range a)
        unfold famK; simpa using this
      by_cases hab : a < bit n
      · try simp (disch := first | omega | (simp; done) | fail) [wrap64c, if_pos, if_neg, opAnd, opOr, opXor, opDiff, opShr, opBit, hnt, hcs, hL, c1, h40', e0, e1, e4, e22, e23, e24, hg, hlt, e8, e9, hg2, hab]
        refine WD_loopC [0, 1, 4, 8, 9, 57, 58] (fun m tm h' => ∃ i, m = L.length - i ∧ hq2 = h' ∧ tm 10 = .bool (!(L.take i).any (breaks a)) ∧ tm 59 = .int .i64 (i : Int) ∧ (i ≤ L.length)) _ ⟨0, rfl, rfl, (by simp), (by simp (disch := first | omega | (simp; done) | fail) [wrap64c, if_pos, if_neg, opAnd, opOr, opXor, opDiff, opShr, opBit, hnt, hcs, hL, c1, h40', e0, e1, e4, e22, e23, e24, hg, hlt, e8, e9, hg2, hab]), (by first | omega | assumption | (simp (disch := first | omega | (simp; done) | fail) [wrap64c, if_pos, if_neg, opAnd, opOr, opXor, opDiff, opShr, opBit, hnt, hcs, hL, c1, h40', e0, e1, e4, e22, e23, e24, hg, hlt, e8, e9, hg2, hab] <;> omega))⟩ ?_
        rintro m tm h' hFr ⟨i, rfl, rfl, e10, e59, hi⟩
        simp only [FrameL] at hFr
        obtain ⟨f0_2, f1_2, f4_2, f8_2, f9_2, f57_2, f58_2, -⟩ := hFr
        try simp (disch := first | omega | (simp; done) | fail) [wrap64c, if_pos, if_neg, opAnd, opOr, opXor, opDiff, opShr, opBit, hnt, hcs, hL, c1, h40', e0, e1, e4, e22, e23, e24, hg, hlt, e8, e9, hg2, hab] at f0_2 f1_2 f4_2 f8_2 f9_2 f57_2 f58_2
        have e0 := f0_2
        have e1 := f1_2
        have e4 := f4_2
        have e8 := f8_2
        have e9 := f9_2
        have e57 := f57_2
        have e58 := f58_2
        by_cases hli : i < L.length
        · obtain ⟨c, d, hc, hd, hcd⟩ := pair_two (hall _ (List.getElem_mem hli))
          obtain ⟨o_x, i_x, c_x, cs_x, own_x, ex_x, es_x, us_x, q_x, b_x, g_x, l_x, r_x, R_x⟩ := hv2.open ((by omega))
          have z_x : ∀ h2 : i_x < cs_x.length, cs_x[i_x] = _ := fun h2 => r_x 0 ((by omega)) h2
          have hR := R_x i hli
          rw [hcd] at hR
          have htk : L.take (i + 1) = L.take i ++ [L[i]] := List.take_succ_eq_append_getElem hli
          obtain ⟨o_y, i_y, c_y, cs_y, own_y, ex_y, es_y, q_y, b_y, g_y, l_y, r_y⟩ := hR.open ((by simp))
          have z_y : ∀ h2 : i_y < cs_y.length, cs_y[i_y] = _ := fun h2 => r_y 0 ((by simp)) h2
          have l2_y : i_y + 1 < cs_y.length := by have := l_y; simp at this; omega
          have l3_y : i_y < cs_y.length := by omega
          have z2_y := r_y 1 (by simp)
          cases hgd : (L.take i).any (breaks a)
          · try simp (disch := first | omega | (simp; done) | fail) [wrap64c, if_pos, if_neg, opAnd, opOr, opXor, opDiff, opShr, opBit, hnt, hcs, hL, c1, h40', e0, e1, e4, e22, e23, e24, hg, hlt, e8, e9, hg2, hab, e10, e57, e58, e59, hli, q_x, g_x, l_x, r_x, z_x, q_y, g_y, l_y, r_y, z_y, l2_y, l3_y, z2_y, hgd]
            refine callG_c (by simp) (by simp) ?ha (spIn_ok hq2 a d (by omega) (by omega)) ?_
            (case ha => simp (disch := first | omega | (simp; done) | fail) [wrap64c, if_pos, if_neg, opAnd, opOr, opXor, opDiff, opShr, opBit, hnt, hcs, hL, c1, h40', e0, e1, e4, e22, e23, e24, hg, hlt, e8, e9, hg2, hab, e10, e57, e58, e59, hli, q_x, g_x, l_x, r_x, z_x, q_y, g_y, l_y, r_y, z_y, l2_y, l3_y, z2_y, hgd])
            cases h2 : a.testBit d
            · try simp (disch := first | omega | (simp; done) | fail) [wrap64c, if_pos, if_neg, opAnd, opOr, opXor, opDiff, opShr, opBit, hnt, hcs, hL, c1, h40', e0, e1, e4, e22, e23, e24, hg, hlt, e8, e9, hg2, hab, e10, e57, e58, e59, hli, q_x, g_x, l_x, r_x, z_x, q_y, g_y, l_y, r_y, z_y, l2_y, l3_y, z2_y, hgd, h2]
              refine loopK_next _ ?hm ?hf ⟨i + 1, rfl, rfl, (by simp [htk, hgd, hcd, breaks, h2, -List.take_append_getElem]), (by simp (disch := first | omega | (simp; done) | fail) [wrap64c, if_pos, if_neg, opAnd, opOr, opXor, opDiff, opShr, opBit, hnt, hcs, hL, c1, h40', e0, e1, e4, e22, e23, e24, hg, hlt, e8, e9, hg2, hab, e10, e57, e58, e59, hli, q_x, g_x, l_x, r_x, z_x, q_y, g_y, l_y, r_y, z_y, l2_y, l3_y, z2_y, hgd, h2] <;> omega), (by first | omega | assumption | (simp (disch := first | omega | (simp; done) | fail) [wrap64c, if_pos, if_neg, opAnd, opOr, opXor, opDiff, opShr, opBit, hnt, hcs, hL, c1, h40', e0, e1, e4, e22, e23, e24, hg, hlt, e8, e9, hg2, hab, e10, e57, e58, e59, hli, q_x, g_x, l_x, r_x, z_x, q_y, g_y, l_y, r_y, z_y, l2_y, l3_y, z2_y, hgd, h2] <;> omega))⟩
              (case hm => first | omega | (simp; omega))
              (case hf => simp [FrameL, hnt, hcs, hL, c1, h40', e0, e1, e4, e22, e23, e24, hg, hlt, e8, e9, hg2, hab, e10, e57, e58, e59, hli, q_x, g_x, l_x, r_x, z_x, q_y, g_y, l_y, r_y, z_y, l2_y, l3_y, z2_y, hgd, h2, f0_2, f1_2, f4_2, f8_2, f9_2, f57_2, f58_2])
            · try simp (disch := first | omega | (simp; done) | fail) [wrap64c, if_pos, if_neg, opAnd, opOr, opXor, opDiff, opShr, opBit, hnt, hcs, hL, c1, h40', e0, e1, e4, e22, e23, e24, hg, hlt, e8, e9, hg2, hab, e10, e57, e58, e59, hli, q_x, g_x, l_x, r_x, z_x, q_y, g_y, l_y, r_y, z_y, l2_y, l3_y, z2_y, hgd, h2]
              refine callG_c (by simp) (by simp) ?ha (spIn_ok hq2 a c (by omega) (by omega)) ?_
              (case ha => simp (disch := first | omega | (simp; done) | fail) [wrap64c, if_pos, if_neg, opAnd, opOr, opXor, opDiff, opShr, opBit, hnt, hcs, hL, c1, h40', e0, e1, e4, e22, e23, e24, hg, hlt, e8, e9, hg2, hab, e10, e57, e58, e59, hli, q_x, g_x, l_x, r_x, z_x, q_y, g_y, l_y, r_y, z_y, l2_y, l3_y, z2_y, hgd, h2])
              cases h3 : a.testBit c
              · try simp (disch := first | omega | (simp; done) | fail) [wrap64c, if_pos, if_neg, opAnd, opOr, opXor, opDiff, opShr, opBit, hnt, hcs, hL, c1, h40', e0, e1, e4, e22, e23, e24, hg, hlt, e8, e9, hg2, hab, e10, e57, e58, e59, hli, q_x, g_x, l_x, r_x, z_x, q_y, g_y, l_y, r_y, z_y, l2_y, l3_y, z2_y, hgd, h2, h3]
                refine loopK_next _ ?hm ?hf ⟨i + 1, rfl, rfl, (by simp [htk, hgd, hcd, breaks, h2, h3, -List.take_append_getElem]), (by simp (disch := first | omega | (simp; done) | fail) [wrap64c, if_pos, if_neg, opAnd, opOr, opXor, opDiff, opShr, opBit, hnt, hcs, hL, c1, h40', e0, e1, e4, e22, e23, e24, hg, hlt, e8, e9, hg2, hab, e10, e57, e58, e59, hli, q_x, g_x, l_x, r_x, z_x, q_y, g_y, l_y, r_y, z_y, l2_y, l3_y, z2_y, hgd, h2, h3] <;> omega), (by first | omega | assumption | (simp (disch := first | omega | (simp; done) | fail) [wrap64c, if_pos, if_neg, opAnd, opOr, opXor, opDiff, opShr, opBit, hnt, hcs, hL, c1, h40', e0, e1, e4, e22, e23, e24, hg, hlt, e8, e9, hg2, hab, e10, e57, e58, e59, hli, q_x, g_x, l_x, r_x, z_x, q_y, g_y, l_y, r_y, z_y, l2_y, l3_y, z2_y, hgd, h2, h3] <;> omega))⟩
                (case hm => first | omega | (simp; omega))
                (case hf => simp [FrameL, hnt, hcs, hL, c1, h40', e0, e1, e4, e22, e23, e24, hg, hlt, e8, e9, hg2, hab, e10, e57, e58, e59, hli, q_x, g_x, l_x, r_x, z_x, q_y, g_y, l_y, r_y, z_y, l2_y, l3_y, z2_y, hgd, h2, h3, f0_2, f1_2, f4_2, f8_2, f9_2, f57_2, f58_2])
              · try simp (disch := first | omega | (simp; done) | fail) [wrap64c, if_pos, if_neg, opAnd, opOr, opXor, opDiff, opShr, opBit, hnt, hcs, hL, c1, h40', e0, e1, e4, e22, e23, e24, hg, hlt, e8, e9, hg2, hab, e10, e57, e58, e59, hli, q_x, g_x, l_x, r_x, z_x, q_y, g_y, l_y, r_y, z_y, l2_y, l3_y, z2_y, hgd, h2, h3]
                refine loopK_next _ ?hm ?hf ⟨i + 1, rfl, rfl, (by simp [htk, hgd, hcd, breaks, h2, h3, -List.take_append_getElem]), (by simp (disch := first | omega | (simp; done) | fail) [wrap64c, if_pos, if_neg, opAnd, opOr, opXor, opDiff, opShr, opBit, hnt, hcs, hL, c1, h40', e0, e1, e4, e22, e23, e24, hg, hlt, e8, e9, hg2, hab, e10, e57, e58, e59, hli, q_x, g_x, l_x, r_x, z_x, q_y, g_y, l_y, r_y, z_y, l2_y, l3_y, z2_y, hgd, h2, h3] <;> omega), (by first | omega | assumption | (simp (disch := first | omega | (simp; done) | fail) [wrap64c, if_pos, if_neg, opAnd, opOr, opXor, opDiff, opShr, opBit, hnt, hcs, hL, c1, h40', e0, e1, e4, e22, e23, e24, hg, hlt, e8, e9, hg2, hab, e10, e57, e58, e59, hli, q_x, g_x, l_x, r_x, z_x, q_y, g_y, l_y, r_y, z_y, l2_y, l3_y, z2_y, hgd, h2, h3] <;> omega))⟩
                (case hm => first | omega | (simp; omega))
                (case hf => simp [FrameL, hnt, hcs, hL, c1, h40', e0, e1, e4, e22, e23, e24, hg, hlt, e8, e9, hg2, hab, e10, e57, e58, e59, hli, q_x, g_x, l_x, r_x, z_x, q_y, g_y, l_y, r_y, z_y, l2_y, l3_y, z2_y, hgd, h2, h3, f0_2, f1_2, f4_2, f8_2, f9_2, f57_2, f58_2])
          · try simp (disch := first | omega | (simp; done) | fail) [wrap64c, if_pos, if_neg, opAnd, opOr, opXor, opDiff, opShr, opBit, hnt, hcs, hL, c1, h40', e0, e1, e4, e22, e23, e24, hg, hlt, e8, e9, hg2, hab, e10, e57, e58, e59, hli, q_x, g_x, l_x, r_x, z_x, q_y, g_y, l_y, r_y, z_y, l2_y, l3_y, z2_y, hgd]
            refine loopK_next _ ?hm ?hf ⟨i + 1, rfl, rfl, (by simp [htk, hgd, -List.take_append_getElem]), (by simp (disch := first | omega | (simp; done) | fail) [wrap64c, if_pos, if_neg, opAnd, opOr, opXor, opDiff, opShr, opBit, hnt, hcs, hL, c1, h40', e0, e1, e4, e22, e23, e24, hg, hlt, e8, e9, hg2, hab, e10, e57, e58, e59, hli, q_x, g_x, l_x, r_x, z_x, q_y, g_y, l_y, r_y, z_y, l2_y, l3_y, z2_y, hgd] <;> omega), (by first | omega | assumption | (simp (disch := first | omega | (simp; done) | fail) [wrap64c, if_pos, if_neg, opAnd, opOr, opXor, opDiff, opShr, opBit, hnt, hcs, hL, c1, h40', e0, e1, e4, e22, e23, e24, hg, hlt, e8, e9, hg2, hab, e10, e57, e58, e59, hli, q_x, g_x, l_x, r_x, z_x, q_y, g_y, l_y, r_y, z_y, l2_y, l3_y, z2_y, hgd] <;> omega))⟩
            (case hm => first | omega | (simp; omega))
            (case hf => simp [FrameL, hnt, hcs, hL, c1, h40', e0, e1, e4, e22, e23, e24, hg, hlt, e8, e9, hg2, hab, e10, e57, e58, e59, hli, q_x, g_x, l_x, r_x, z_x, q_y, g_y, l_y, r_y, z_y, l2_y, l3_y, z2_y, hgd, f0_2, f1_2, f4_2, f8_2, f9_2, f57_2, f58_2])
        · have hie : i = L.length := by omega
          have hfs := famK_succ (keepsB L) a
          rw [hie, List.take_length] at e10
          cases hc : L.any (breaks a)
          · rw [if_pos (by simp [keepsB, hc])] at hfs
            have ntu := (hw.own (by simp; omega)).nt
            have csu := (hw.own (by simp; omega)).cs
            have gq0 : hq2.get h.next = .cells [.int .i64 0, .slice none 0 0] true true 1 := by rw [ha2.1.2 _ (by omega)]; exact hg
            try simp (disch := first | omega | (simp; done) | fail) [wrap64c, if_pos, if_neg, opAnd, opOr, opXor, opDiff, opShr, opBit, hnt, hcs, hL, c1, h40', e0, e1, e4, e22, e23, e24, hg, hlt, e8, e9, hg2, hab, e10, e57, e58, e59, hli, hc, ntu, csu]
            obtain ⟨u2, h4, hap, hu2, ha4, hn4, hs4⟩ := appI hw (a : Int) (by simp; omega) hnn ha2 (by omega)
            have gq : h4.get hq.next = .cells [.int .i64 (n : Int), w] true true 1 := by rw [hs4 _ (by omega) (by omega)]; exact hg2
            have nt2 := (hu2.own (by simp; omega)).nt
            have cs2 := (hu2.own (by simp; omega)).cs
            try simp (disch := first | omega | (simp; done) | fail) [wrap64c, if_pos, if_neg, opAnd, opOr, opXor, opDiff, opShr, opBit, hnt, hcs, hL, c1, h40', e0, e1, e4, e22, e23, e24, hg, hlt, e8, e9, hg2, hab, e10, e57, e58, e59, hli, hc, ntu, csu, gq, nt2, cs2, hap, putCells]
            refine loopK_next _ ?hm ?hf ⟨a + 1, u2, rfl, (by simp (disch := first | omega | (simp; done) | fail) [wrap64c, if_pos, if_neg, opAnd, opOr, opXor, opDiff, opShr, opBit, hnt, hcs, hL, c1, h40', e0, e1, e4, e22, e23, e24, hg, hlt, e8, e9, hg2, hab, e10, e57, e58, e59, hli, hc, ntu, csu, gq, nt2, cs2] <;> omega), (by first | omega | assumption | (simp (disch := first | omega | (simp; done) | fail) [wrap64c, if_pos, if_neg, opAnd, opOr, opXor, opDiff, opShr, opBit, hnt, hcs, hL, c1, h40', e0, e1, e4, e22, e23, e24, hg, hlt, e8, e9, hg2, hab, e10, e57, e58, e59, hli, hc, ntu, csu, gq, nt2, cs2] <;> omega)), (by first | exact aK | exact kK), (by rw [hfs, toN_snoc]; exact IntsA.putB hu2 (by omega) _), (by simp), (by simp; omega)⟩
            (case hm => first | omega | (simp; omega))
            (case hf => simp [FrameL, hnt, hcs, hL, c1, h40', e0, e1, e4, e22, e23, e24, hg, hlt, e8, e9, hg2, hab, e10, e57, e58, e59, hli, hc, ntu, csu, gq, nt2, cs2, f0_1, f1_1, f4_1, f8_1])
          · rw [if_neg (by simp [keepsB, hc])] at hfs
            try simp (disch := first | omega | (simp; done) | fail) [wrap64c, if_pos, if_neg, opAnd, opOr, opXor, opDiff, opShr, opBit, hnt, hcs, hL, c1, h40', e0, e1, e4, e22, e23, e24, hg, hlt, e8, e9, hg2, hab, e10, e57, e58, e59, hli, hc]
            refine loopK_next _ ?hm ?hf ⟨a + 1, w, rfl, (by simp (disch := first | omega | (simp; done) | fail) [wrap64c, if_pos, if_neg, opAnd, opOr, opXor, opDiff, opShr, opBit, hnt, hcs, hL, c1, h40', e0, e1, e4, e22, e23, e24, hg, hlt, e8, e9, hg2, hab, e10, e57, e58, e59, hli, hc] <;> omega), (by first | omega | assumption | (simp (disch := first | omega | (simp; done) | fail) [wrap64c, if_pos, if_neg, opAnd, opOr, opXor, opDiff, opShr, opBit, hnt, hcs, hL, c1, h40', e0, e1, e4, e22, e23, e24, hg, hlt, e8, e9, hg2, hab, e10, e57, e58, e59, hli, hc] <;> omega)), (by first | omega | assumption | (simp (disch := first | omega | (simp; done) | fail) [wrap64c, if_pos, if_neg, opAnd, opOr, opXor, opDiff, opShr, opBit, hnt, hcs, hL, c1, h40', e0, e1, e4, e22, e23, e24, hg, hlt, e8, e9, hg2, hab, e10, e57, e58, e59, hli, hc] <;> omega)), (by rw [hfs]; exact hw), (by first | omega | assumption | (simp (disch := first | omega | (simp; done) | fail) [wrap64c, if_pos, if_neg, opAnd, opOr, opXor, opDiff, opShr, opBit, hnt, hcs, hL, c1, h40', e0, e1, e4, e22, e23, e24, hg, hlt, e8, e9, hg2, hab, e10, e57, e58, e59, hli, hc] <;> omega)), (by first | omega | assumption | (simp (disch := first | omega | (simp; done) | fail) [wrap64c, if_pos, if_neg, opAnd, opOr, opXor, opDiff, opShr, opBit, hnt, hcs, hL, c1, h40', e0, e1, e4, e22, e23, e24, hg, hlt, e8, e9, hg2, hab, e10, e57, e58, e59, hli, hc] <;> omega))⟩
            (case hm => first | omega | (simp; omega))
            (case hf => simp [FrameL, hnt, hcs, hL, c1, h40', e0, e1, e4, e22, e23, e24, hg, hlt, e8, e9, hg2, hab, e10, e57, e58, e59, hli, hc, f0_1, f1_1, f4_1, f8_1])
      · have hae : a = bit n := by omega
        rw [hae] at hw
        have hol := ordL_len n L
        have hO : IntsO (Btw (hq.next + 1) hq2.next) hq2 w (toN (ordL n L)) := hw.own (by show (toN (ordL n L)).length < _; simp; omega)
        obtain ⟨h5, hc5, ha5⟩ := spIf_ok hq2 w n (toN (ordL n L)) _ hO (fun o ho => ho.2) (by simp; omega)
        have A := (ha.trans ha2).trans ha5
        have m5 := ha5.1.1
        have gq0 : h5.get h.next = .cells [.int .i64 0, .slice none 0 0] true true 1 := by rw [ha5.1.2 _ (by omega), ha2.1.2 _ (by omega)]; exact hg
        have ntu := hO.nt
        have csu := hO.cs
        try simp (disch := first | omega | (simp; done) | fail) [wrap64c, if_pos, if_neg, opAnd, opOr, opXor, opDiff, opShr, opBit, hnt, hcs, hL, c1, h40', e0, e1, e4, e22, e23, e24, hg, hlt, e8, e9, hg2, hab, gq0, ntu, csu]
        refine callG_c (by simp) (by simp) ?ha (hc5) ?_
        (case ha => simp (disch := first | omega | (simp; done) | fail) [wrap64c, if_pos, if_neg, opAnd, opOr, opXor, opDiff, opShr, opBit, hnt, hcs, hL, c1, h40', e0, e1, e4, e22, e23, e24, hg, hlt, e8, e9, hg2, hab, gq0, ntu, csu])
        cases c3 : spB n (toN (ordL n L))
        · have hk : ordOK n L = false := by simp [ordOK, c1, c2, c3]
          try simp (disch := first | omega | (simp; done) | fail) [wrap64c, if_pos, if_neg, opAnd, opOr, opXor, opDiff, opShr, opBit, hnt, hcs, hL, c1, h40', e0, e1, e4, e22, e23, e24, hg, hlt, e8, e9, hg2, hab, gq0, ntu, csu, c3, hk, putCells]
          refine done_ret (by simp [putCells, e4]; rfl) ⟨(by first | exact aK | exact kK), .agg #[.int .i64 0, .slice none 0 0], by simp [hk], ?_⟩
          simp only [ordN, ordX, hk]
          exact ⟨_, rfl, .nil _ _⟩
        · have hk : ordOK n L = true := by simp [ordOK, c1, c2, c3]
          try simp (disch := first | omega | (simp; done) | fail) [wrap64c, if_pos, if_neg, opAnd, opOr, opXor, opDiff, opShr, opBit, hnt, hcs, hL, c1, h40', e0, e1, e4, e22, e23, e24, hg, hlt, e8, e9, hg2, hab, gq0, ntu, csu, c3, hk, putCells]
          refine done_ret (by simp [putCells, e4]; rfl) ⟨(by first | exact aK | exact kK), .agg #[.int .i64 n, w], by simp [hk], ?_⟩
          simp only [ordN, ordX, hk, if_true]
          exact ⟨w, rfl, ((hO.keep ha5.1).same (Same.put (Same.refl _ _) (by unfold Btw; omega) _)).sub fun o ho => ⟨by have := ho.1; omega, by have := ho.2; simp; omega⟩⟩
end Go.Proofs.Ytnjabaeajjhliaa
