/- Part 4 of the proof of lateJobs_holds: what it uses of the texts that lie in the notes, merged. -/
import Derived.Test.YtnncipcldbopgaaQl3
import Derived.Deep.SlicePairs
import Derived.Shelf.Slices.Reverse
import Derived.Ground.NamesProg
import Derived.Test.YtnncipcldbopgaaProg
namespace Go.Proofs.Ytnncipcldbopgaa
set_option linter.unusedSimpArgs false
set_option linter.unusedVariables false
set_option maxHeartbeats 4000000
open Go Go.Eng
attribute [local irreducible] WD RunD PreD Runs CallOK
theorem pairB_two {N a b : Int} : pairB N [a, b] = (decide (∀ x ∈ [a, b], 0 ≤ x ∧ x ≤ N - 1) && !(a == b)) := by
  rw [Bool.eq_iff_iff]
  simp [pairB, and_assoc]
theorem ordOK_no {N : Int} {L : List (List Int)} (c1 : sizeB N = true) {j : Nat} (hj : j < L.length) (hp : pairB N L[j] = false) : ordOK N L = false := by
  have : (L.any fun x => !pairB N x) = true := List.any_eq_true.2 ⟨_, List.getElem_mem hj, by rw [hp]; rfl⟩
  simp [ordOK, pairsB, this]
theorem pairsB_of {N : Int} {L : List (List Int)} (h : L.length ≤ 40) (hp : ∀ x ∈ L, pairB N x = true) : pairsB N L = true := by
  unfold pairsB
  simp only [Bool.and_eq_true, decide_eq_true_eq, Bool.not_eq_true', List.any_eq_false]
  exact ⟨h, fun x hx => by rw [hp x hx]; simp⟩
theorem pair_two {n : Nat} {x : List Int} (h : pairB n x = true) : ∃ c d : Nat, c < n ∧ d < n ∧ x = [(c : Int), (d : Int)] := by
  unfold pairB at h
  simp only [Bool.and_eq_true, decide_eq_true_eq] at h
  obtain ⟨h2, ⟨p1, p2⟩, ⟨p3, p4⟩, _⟩ := h
  match x, h2 with
  | [c, d], _ =>
    simp at p1 p2 p3 p4
    exact ⟨c.toNat, d.toNat, by omega, by omega, by simp; omega⟩
theorem specOrder_ok (h : Hp) (v : Value) (L : List (List Int)) (N : Int) (hv : IRows h v L) :
    ∃ v' h', CallOK Try.prog 217 #[.int .i64 N, v] h v' h' ∧ Adds h h' ∧ ∃ u, v' = .tuple #[u, .bool (ordOK N L)] ∧ SpaceO (Btw h.next h'.next) h' u (ordN N L) (ordX N L) := by
  have hnt := hv.nt
  have hcs := hv.cs
  have hL := hv.lenD
  have hs := hv.len
  cases c1 : sizeB N
  · have hk : ordOK N L = false := by simp [ordOK, c1]
    refine callY_L (args := [.int .i64 N, v]) 91 _ [.cell 4 26, .tmp 5] Try.func217 rfl rfl rfl ?_
    try simp (disch := first | omega | (simp; done) | fail) [wrap64c, if_pos, if_neg, opAnd, opOr, opXor, opDiff, opShr, opBit, hnt, hcs, hL, c1, hk]
    refine callG_c (by simp) (by simp) ?ha (spItems_ok _ N) ?_
    (case ha => simp (disch := first | omega | (simp; done) | fail) [wrap64c, if_pos, if_neg, opAnd, opOr, opXor, opDiff, opShr, opBit, hnt, hcs, hL, c1, hk])
    try simp (disch := first | omega | (simp; done) | fail) [wrap64c, if_pos, if_neg, opAnd, opOr, opXor, opDiff, opShr, opBit, hnt, hcs, hL, c1, hk, putCells]
    refine done_ret (by simp [putCells]; rfl) ⟨(by first | exact aK | exact kK), .agg #[.int .i64 0, .slice none 0 0], by simp [hk], ?_⟩
    simp only [ordN, ordX, hk]
    exact ⟨_, rfl, .nil _ _⟩
  · obtain ⟨n, rfl, n1, n7⟩ := sizeB_true c1
    by_cases h40 : L.length ≤ 40
    case neg =>
      have h40' : ¬ (L.length : Int) ≤ 40 := by omega
      have hk : ordOK n L = false := by simp [ordOK, c1, pairsB, h40]
      refine callY_L (args := [.int .i64 (n : Int), v]) 91 _ [.cell 4 26, .tmp 5] Try.func217 rfl rfl rfl ?_
      try simp (disch := first | omega | (simp; done) | fail) [wrap64c, if_pos, if_neg, opAnd, opOr, opXor, opDiff, opShr, opBit, hnt, hcs, hL, c1, h40', hk]
      refine callG_c (by simp) (by simp) ?ha (spItems_ok _ n) ?_
      (case ha => simp (disch := first | omega | (simp; done) | fail) [wrap64c, if_pos, if_neg, opAnd, opOr, opXor, opDiff, opShr, opBit, hnt, hcs, hL, c1, h40', hk])
      try simp (disch := first | omega | (simp; done) | fail) [wrap64c, if_pos, if_neg, opAnd, opOr, opXor, opDiff, opShr, opBit, hnt, hcs, hL, c1, h40', hk, putCells]
      refine done_ret (by simp [putCells]; rfl) ⟨(by first | exact aK | exact kK), .agg #[.int .i64 0, .slice none 0 0], by simp [hk], ?_⟩
      simp only [ordN, ordX, hk]
      exact ⟨_, rfl, .nil _ _⟩
    have h40' : (L.length : Int) ≤ 40 := by omega
    refine callY_L (args := [.int .i64 (n : Int), v]) 91 _ [.cell 4 26, .tmp 5] Try.func217 rfl rfl rfl ?_
    try simp (disch := first | omega | (simp; done) | fail) [wrap64c, if_pos, if_neg, opAnd, opOr, opXor, opDiff, opShr, opBit, hnt, hcs, hL, c1, h40']
    refine callG_c (by simp) (by simp) ?ha (spItems_ok _ n) ?_
    (case ha => simp (disch := first | omega | (simp; done) | fail) [wrap64c, if_pos, if_neg, opAnd, opOr, opXor, opDiff, opShr, opBit, hnt, hcs, hL, c1, h40'])
    try simp (disch := first | omega | (simp; done) | fail) [wrap64c, if_pos, if_neg, opAnd, opOr, opXor, opDiff, opShr, opBit, hnt, hcs, hL, c1, h40']
    refine WD_loopC [0, 1, 4, 22, 23] (fun m tm h' => ∃ j, m = L.length - j ∧ tm 24 = .int .i64 (j : Int) ∧ (j ≤ L.length) ∧ (Adds h h') ∧ (h'.next = h.next + 1) ∧ (h'.get h.next = .cells [.int .i64 0, .slice none 0 0] true true 1) ∧ (∀ i (hi : i < L.length), i < j → pairB n L[i] = true)) _ ⟨0, rfl, (by simp (disch := first | omega | (simp; done) | fail) [wrap64c, if_pos, if_neg, opAnd, opOr, opXor, opDiff, opShr, opBit, hnt, hcs, hL, c1, h40']), (by first | omega | assumption | (simp (disch := first | omega | (simp; done) | fail) [wrap64c, if_pos, if_neg, opAnd, opOr, opXor, opDiff, opShr, opBit, hnt, hcs, hL, c1, h40'] <;> omega)), (by first | exact aK | exact kK), (by simp), (by simp), (fun i hi h0 => by omega)⟩ ?_
    rintro m tm h' hFr ⟨j, rfl, e24, hj, ha, hn1, hg, hx⟩
    simp only [FrameL] at hFr
    obtain ⟨f0_0, f1_0, f4_0, f22_0, f23_0, -⟩ := hFr
    try simp (disch := first | omega | (simp; done) | fail) [wrap64c, if_pos, if_neg, opAnd, opOr, opXor, opDiff, opShr, opBit, hnt, hcs, hL, c1, h40'] at f0_0 f1_0 f4_0 f22_0 f23_0
    have e0 := f0_0
    have e1 := f1_0
    have e4 := f4_0
    have e22 := f22_0
    have e23 := f23_0
    rename Hp => hq
    have hv1 := hv.keep ha.1
    by_cases hlt : j < L.length
    · obtain ⟨o_x, i_x, c_x, cs_x, own_x, ex_x, es_x, us_x, q_x, b_x, g_x, l_x, r_x, R_x⟩ := hv1.open ((by omega))
      have z_x : ∀ h2 : i_x < cs_x.length, cs_x[i_x] = _ := fun h2 => r_x 0 ((by omega)) h2
      try simp (disch := first | omega | (simp; done) | fail) [wrap64c, if_pos, if_neg, opAnd, opOr, opXor, opDiff, opShr, opBit, hnt, hcs, hL, c1, h40', e0, e1, e4, e22, e23, e24, hg, hlt, q_x, g_x, l_x, r_x, z_x]
      refine WD_drawC 19 rfl (by kernel_rfl) ?_
      by_cases h2 : L[j].length = 2
      · obtain ⟨a, b, hab⟩ : ∃ a b, L[j] = [a, b] := by
          match L[j], h2 with
          | [a, b], _ => exact ⟨a, b, rfl⟩
        have hR := R_x j hlt
        rw [hab] at hR
        have hLj := hR.lenD
        obtain ⟨o_y, i_y, c_y, cs_y, own_y, ex_y, es_y, q_y, b_y, g_y, l_y, r_y⟩ := hR.open ((by simp))
        have z_y : ∀ h2 : i_y < cs_y.length, cs_y[i_y] = _ := fun h2 => r_y 0 ((by simp)) h2
        have l2_y : i_y + 1 < cs_y.length := by have := l_y; simp at this; omega
        have l3_y : i_y < cs_y.length := by omega
        have z2_y := r_y 1 (by simp)
        try simp (disch := first | omega | (simp; done) | fail) [wrap64c, if_pos, if_neg, opAnd, opOr, opXor, opDiff, opShr, opBit, hnt, hcs, hL, c1, h40', e0, e1, e4, e22, e23, e24, hg, hlt, q_x, g_x, l_x, r_x, z_x, hLj, q_y, g_y, l_y, r_y, z_y, l2_y, l3_y, z2_y]
        refine callP_c (by simp) (by simp) ?ha (l1All_ok hq (us_x j) [a, b] 0 (n - 1) hR) ?hadd ?_
        (case ha => simp (disch := first | omega | (simp; done) | fail) [wrap64c, if_pos, if_neg, opAnd, opOr, opXor, opDiff, opShr, opBit, hnt, hcs, hL, c1, h40', e0, e1, e4, e22, e23, e24, hg, hlt, q_x, g_x, l_x, r_x, z_x, hLj, q_y, g_y, l_y, r_y, z_y, l2_y, l3_y, z2_y])
        (case hadd => first | assumption | exact adds_self _ | (simp; done))
        cases d1 : decide (∀ x ∈ [a, b], 0 ≤ x ∧ x ≤ (n : Int) - 1)
        · have hp : pairB n L[j] = false := by rw [hab, pairB_two, d1]; rfl
          have hk := ordOK_no c1 hlt hp
          try simp (disch := first | omega | (simp; done) | fail) [wrap64c, if_pos, if_neg, opAnd, opOr, opXor, opDiff, opShr, opBit, hnt, hcs, hL, c1, h40', e0, e1, e4, e22, e23, e24, hg, hlt, q_x, g_x, l_x, r_x, z_x, hLj, q_y, g_y, l_y, r_y, z_y, l2_y, l3_y, z2_y, d1, hk, putCells]
          refine done_ret (by simp [putCells, e4]; rfl) ⟨(by first | exact aK | exact kK), .agg #[.int .i64 0, .slice none 0 0], by simp [hk], ?_⟩
          simp only [ordN, ordX, hk]
          exact ⟨_, rfl, .nil _ _⟩
        · cases d2 : (a == b)
          · have hp : pairB n L[j] = true := by rw [hab, pairB_two, d1, d2]; rfl
            try simp (disch := first | omega | (simp; done) | fail) [wrap64c, if_pos, if_neg, opAnd, opOr, opXor, opDiff, opShr, opBit, hnt, hcs, hL, c1, h40', e0, e1, e4, e22, e23, e24, hg, hlt, q_x, g_x, l_x, r_x, z_x, hLj, q_y, g_y, l_y, r_y, z_y, l2_y, l3_y, z2_y, d1, d2]
            refine loopK_next _ ?hm ?hf ⟨j + 1, rfl, (by simp (disch := first | omega | (simp; done) | fail) [wrap64c, if_pos, if_neg, opAnd, opOr, opXor, opDiff, opShr, opBit, hnt, hcs, hL, c1, h40', e0, e1, e4, e22, e23, e24, hg, hlt, q_x, g_x, l_x, r_x, z_x, hLj, q_y, g_y, l_y, r_y, z_y, l2_y, l3_y, z2_y, d1, d2] <;> omega), (by first | omega | assumption | (simp (disch := first | omega | (simp; done) | fail) [wrap64c, if_pos, if_neg, opAnd, opOr, opXor, opDiff, opShr, opBit, hnt, hcs, hL, c1, h40', e0, e1, e4, e22, e23, e24, hg, hlt, q_x, g_x, l_x, r_x, z_x, hLj, q_y, g_y, l_y, r_y, z_y, l2_y, l3_y, z2_y, d1, d2] <;> omega)), (by first | omega | assumption | (simp (disch := first | omega | (simp; done) | fail) [wrap64c, if_pos, if_neg, opAnd, opOr, opXor, opDiff, opShr, opBit, hnt, hcs, hL, c1, h40', e0, e1, e4, e22, e23, e24, hg, hlt, q_x, g_x, l_x, r_x, z_x, hLj, q_y, g_y, l_y, r_y, z_y, l2_y, l3_y, z2_y, d1, d2] <;> omega)), (by first | omega | assumption | (simp (disch := first | omega | (simp; done) | fail) [wrap64c, if_pos, if_neg, opAnd, opOr, opXor, opDiff, opShr, opBit, hnt, hcs, hL, c1, h40', e0, e1, e4, e22, e23, e24, hg, hlt, q_x, g_x, l_x, r_x, z_x, hLj, q_y, g_y, l_y, r_y, z_y, l2_y, l3_y, z2_y, d1, d2] <;> omega)), (by first | omega | assumption | (simp (disch := first | omega | (simp; done) | fail) [wrap64c, if_pos, if_neg, opAnd, opOr, opXor, opDiff, opShr, opBit, hnt, hcs, hL, c1, h40', e0, e1, e4, e22, e23, e24, hg, hlt, q_x, g_x, l_x, r_x, z_x, hLj, q_y, g_y, l_y, r_y, z_y, l2_y, l3_y, z2_y, d1, d2] <;> omega)), ?c_hx⟩
            (case hm => first | omega | (simp; omega))
            (case hf => simp [FrameL, hnt, hcs, hL, c1, h40', e0, e1, e4, e22, e23, e24, hg, hlt, q_x, g_x, l_x, r_x, z_x, hLj, q_y, g_y, l_y, r_y, z_y, l2_y, l3_y, z2_y, d1, d2, f0_0, f1_0, f4_0, f22_0, f23_0])
            case c_hx =>
              exact (fun i hi h1 => by
                by_cases e : i = j
                · subst e; exact hp
                · exact hx i hi (by omega))
          · have hp : pairB n L[j] = false := by rw [hab, pairB_two, d1, d2]; rfl
            have hk := ordOK_no c1 hlt hp
            try simp (disch := first | omega | (simp; done) | fail) [wrap64c, if_pos, if_neg, opAnd, opOr, opXor, opDiff, opShr, opBit, hnt, hcs, hL, c1, h40', e0, e1, e4, e22, e23, e24, hg, hlt, q_x, g_x, l_x, r_x, z_x, hLj, q_y, g_y, l_y, r_y, z_y, l2_y, l3_y, z2_y, d1, d2, hk, putCells]
            refine done_ret (by simp [putCells, e4]; rfl) ⟨(by first | exact aK | exact kK), .agg #[.int .i64 0, .slice none 0 0], by simp [hk], ?_⟩
            simp only [ordN, ordX, hk]
            exact ⟨_, rfl, .nil _ _⟩
      · have h2' : ((L[j].length : Int) != 2) = true := by simp; omega
        have hp : pairB n L[j] = false := by simp [pairB, h2]
        have hk := ordOK_no c1 hlt hp
        have hLj := (R_x j hlt).lenD
        try simp (disch := first | omega | (simp; done) | fail) [wrap64c, if_pos, if_neg, opAnd, opOr, opXor, opDiff, opShr, opBit, hnt, hcs, hL, c1, h40', e0, e1, e4, e22, e23, e24, hg, hlt, q_x, g_x, l_x, r_x, z_x, h2', hk, hLj, putCells]
        refine done_ret (by simp [putCells, e4]; rfl) ⟨(by first | exact aK | exact kK), .agg #[.int .i64 0, .slice none 0 0], by simp [hk], ?_⟩
        simp only [ordN, ordX, hk]
        exact ⟨_, rfl, .nil _ _⟩
    · have hje : j = L.length := by omega
      have hall : ∀ x ∈ L, pairB n x = true := fun x hx' => by
        obtain ⟨k, hk, rfl⟩ := List.getElem_of_mem hx'
        exact hx k hk (by omega)
      have c2 := pairsB_of h40 hall
      have hb7 := bit7 n7
      try simp (disch := first | omega | (simp; done) | fail) [wrap64c, if_pos, if_neg, opAnd, opOr, opXor, opDiff, opShr, opBit, hnt, hcs, hL, c1, h40', e0, e1, e4, e22, e23, e24, hg, hlt, putCells]
      refine WD_loopC [0, 1, 4, 8] (fun m tm h' => ∃ a w, m = bit n - a ∧ tm 9 = .int .i64 (a : Int) ∧ (a ≤ bit n) ∧ (Adds hq h') ∧ (IntsA (hq.next + 1) h' w (toN (famK (keepsB L) a))) ∧ (h'.get hq.next = .cells [.int .i64 (n : Int), w] true true 1) ∧ (hq.next + 1 ≤ h'.next)) _ ⟨0, .slice none 0 0, rfl, (by simp (disch := first | omega | (simp; done) | fail) [wrap64c, if_pos, if_neg, opAnd, opOr, opXor, opDiff, opShr, opBit, hnt, hcs, hL, c1, h40', e0, e1, e4, e22, e23, e24, hg, hlt]), (by first | omega | assumption | (simp (disch := first | omega | (simp; done) | fail) [wrap64c, if_pos, if_neg, opAnd, opOr, opXor, opDiff, opShr, opBit, hnt, hcs, hL, c1, h40', e0, e1, e4, e22, e23, e24, hg, hlt] <;> omega)), (by first | exact aK | exact kK), (.nil _ _), (by simp), (by simp)⟩ ?_
      rintro m tm h' hFr ⟨a, w, rfl, e9, hb, ha2, hw, hg2, hnn⟩
      simp only [FrameL] at hFr
      obtain ⟨f0_1, f1_1, f4_1, f8_1, -⟩ := hFr
      try simp (disch := first | omega | (simp; done) | fail) [wrap64c, if_pos, if_neg, opAnd, opOr, opXor, opDiff, opShr, opBit, hnt, hcs, hL, c1, h40', e0, e1, e4, e22, e23, e24, hg, hlt] at f0_1 f1_1 f4_1 f8_1
      have e0 := f0_1
      have e1 := f1_1
      have e4 := f4_1
      have e8 := f8_1
      rename Hp => hq2
      have hv2 := (hv.keep ha.1).keep ha2.1
      have hkl : (famK (keepsB L) a).length ≤ a := by
        have := List.length_filter_le (keepsB L) (List.range a)
        unfold famK; simpa using this
      by_cases hab : a < bit n
      · try simp (disch := first | omega | (simp; done) | fail) [wrap64c, if_pos, if_neg, opAnd, opOr, opXor, opDiff, opShr, opBit, hnt, hcs, hL, c1, h40', e0, e1, e4, e22, e23, e24, hg, hlt, e8, e9, hg2, hab]
        refine WD_loopC [0, 1, 4, 8, 9, 57, 58] (fun m tm h' => ∃ i, m = L.length - i ∧ hq2 = h' ∧ tm 10 = .bool (!(L.take i).any (breaks a)) ∧ tm 59 = .int .i64 (i : Int) ∧ (i ≤ L.length)) _ ⟨0, rfl, rfl, (by simp), (by simp (disch := first | omega | (simp; done) | fail) [wrap64c, if_pos, if_neg, opAnd, opOr, opXor, opDiff, opShr, opBit, hnt, hcs, hL, c1, h40', e0, e1, e4, e22, e23, e24, hg, hlt, e8, e9, hg2, hab]), (by first | omega | assumption | (simp (disch := first | omega | (simp; done) | fail) [wrap64c, if_pos, if_neg, opAnd, opOr, opXor, opDiff, opShr, opBit, hnt, hcs, hL, c1, h40', e0, e1, e4, e22, e23, e24, hg, hlt, e8, e9, hg2, hab] <;> omega))⟩ ?_
        rintro m tm h' hFr ⟨i, rfl, rfl, e10, e59, hi⟩
        simp only [FrameL] at hFr
        obtain ⟨f0_2, f1_2, f4_2, f8_2, f9_2, f57_2, f58_2, -⟩ := hFr
        try simp (disch := first | omega | (simp; done) | fail) [wrap64c, if_pos, if_neg, opAnd, opOr, opXor, opDiff, opShr, opBit, hnt, hcs, hL, c1, h40', e0, e1, e4, e22, e23, e24, hg, hlt, e8, e9, hg2, hab] at f0_2 f1_2 f4_2 f8_2 f9_2 f57_2 f58_2
        have e0 := f0_2
        have e1 := f1_2
        have e4 := f4_2
        have e8 := f8_2
        have e9 := f9_2
        have e57 := f57_2
        have e58 := f58_2
        by_cases hli : i < L.length
        · obtain ⟨c, d, hc, hd, hcd⟩ := pair_two (hall _ (List.getElem_mem hli))
          obtain ⟨o_x, i_x, c_x, cs_x, own_x, ex_x, es_x, us_x, q_x, b_x, g_x, l_x, r_x, R_x⟩ := hv2.open ((by omega))
          have z_x : ∀ h2 : i_x < cs_x.length, cs_x[i_x] = _ := fun h2 => r_x 0 ((by omega)) h2
          have hR := R_x i hli
          rw [hcd] at hR
          have htk : L.take (i + 1) = L.take i ++ [L[i]] := List.take_succ_eq_append_getElem hli
          obtain ⟨o_y, i_y, c_y, cs_y, own_y, ex_y, es_y, q_y, b_y, g_y, l_y, r_y⟩ := hR.open ((by simp))
          have z_y : ∀ h2 : i_y < cs_y.length, cs_y[i_y] = _ := fun h2 => r_y 0 ((by simp)) h2
          have l2_y : i_y + 1 < cs_y.length := by have := l_y; simp at this; omega
          have l3_y : i_y < cs_y.length := by omega
          have z2_y := r_y 1 (by simp)
          cases hgd : (L.take i).any (breaks a)
          · try simp (disch := first | omega | (simp; done) | fail) [wrap64c, if_pos, if_neg, opAnd, opOr, opXor, opDiff, opShr, opBit, hnt, hcs, hL, c1, h40', e0, e1, e4, e22, e23, e24, hg, hlt, e8, e9, hg2, hab, e10, e57, e58, e59, hli, q_x, g_x, l_x, r_x, z_x, q_y, g_y, l_y, r_y, z_y, l2_y, l3_y, z2_y, hgd]
            refine callG_c (by simp) (by simp) ?ha (spIn_ok hq2 a d (by omega) (by omega)) ?_
            (case ha => simp (disch := first | omega | (simp; done) | fail) [wrap64c, if_pos, if_neg, opAnd, opOr, opXor, opDiff, opShr, opBit, hnt, hcs, hL, c1, h40', e0, e1, e4, e22, e23, e24, hg, hlt, e8, e9, hg2, hab, e10, e57, e58, e59, hli, q_x, g_x, l_x, r_x, z_x, q_y, g_y, l_y, r_y, z_y, l2_y, l3_y, z2_y, hgd])
            cases h2 : a.testBit d
            · try simp (disch := first | omega | (simp; done) | fail) [wrap64c, if_pos, if_neg, opAnd, opOr, opXor, opDiff, opShr, opBit, hnt, hcs, hL, c1, h40', e0, e1, e4, e22, e23, e24, hg, hlt, e8, e9, hg2, hab, e10, e57, e58, e59, hli, q_x, g_x, l_x, r_x, z_x, q_y, g_y, l_y, r_y, z_y, l2_y, l3_y, z2_y, hgd, h2]
              refine loopK_next _ ?hm ?hf ⟨i + 1, rfl, rfl, (by simp [htk, hgd, hcd, breaks, h2, -List.take_append_getElem]), (by simp (disch := first | omega | (simp; done) | fail) [wrap64c, if_pos, if_neg, opAnd, opOr, opXor, opDiff, opShr, opBit, hnt, hcs, hL, c1, h40', e0, e1, e4, e22, e23, e24, hg, hlt, e8, e9, hg2, hab, e10, e57, e58, e59, hli, q_x, g_x, l_x, r_x, z_x, q_y, g_y, l_y, r_y, z_y, l2_y, l3_y, z2_y, hgd, h2] <;> omega), (by first | omega | assumption | (simp (disch := first | omega | (simp; done) | fail) [wrap64c, if_pos, if_neg, opAnd, opOr, opXor, opDiff, opShr, opBit, hnt, hcs, hL, c1, h40', e0, e1, e4, e22, e23, e24, hg, hlt, e8, e9, hg2, hab, e10, e57, e58, e59, hli, q_x, g_x, l_x, r_x, z_x, q_y, g_y, l_y, r_y, z_y, l2_y, l3_y, z2_y, hgd, h2] <;> omega))⟩
              (case hm => first | omega | (simp; omega))
              (case hf => simp [FrameL, hnt, hcs, hL, c1, h40', e0, e1, e4, e22, e23, e24, hg, hlt, e8, e9, hg2, hab, e10, e57, e58, e59, hli, q_x, g_x, l_x, r_x, z_x, q_y, g_y, l_y, r_y, z_y, l2_y, l3_y, z2_y, hgd, h2, f0_2, f1_2, f4_2, f8_2, f9_2, f57_2, f58_2])
            · try simp (disch := first | omega | (simp; done) | fail) [wrap64c, if_pos, if_neg, opAnd, opOr, opXor, opDiff, opShr, opBit, hnt, hcs, hL, c1, h40', e0, e1, e4, e22, e23, e24, hg, hlt, e8, e9, hg2, hab, e10, e57, e58, e59, hli, q_x, g_x, l_x, r_x, z_x, q_y, g_y, l_y, r_y, z_y, l2_y, l3_y, z2_y, hgd, h2]
              refine callG_c (by simp) (by simp) ?ha (spIn_ok hq2 a c (by omega) (by omega)) ?_
              (case ha => simp (disch := first | omega | (simp; done) | fail) [wrap64c, if_pos, if_neg, opAnd, opOr, opXor, opDiff, opShr, opBit, hnt, hcs, hL, c1, h40', e0, e1, e4, e22, e23, e24, hg, hlt, e8, e9, hg2, hab, e10, e57, e58, e59, hli, q_x, g_x, l_x, r_x, z_x, q_y, g_y, l_y, r_y, z_y, l2_y, l3_y, z2_y, hgd, h2])
              cases h3 : a.testBit c
              · try simp (disch := first | omega | (simp; done) | fail) [wrap64c, if_pos, if_neg, opAnd, opOr, opXor, opDiff, opShr, opBit, hnt, hcs, hL, c1, h40', e0, e1, e4, e22, e23, e24, hg, hlt, e8, e9, hg2, hab, e10, e57, e58, e59, hli, q_x, g_x, l_x, r_x, z_x, q_y, g_y, l_y, r_y, z_y, l2_y, l3_y, z2_y, hgd, h2, h3]
                refine loopK_next _ ?hm ?hf ⟨i + 1, rfl, rfl, (by simp [htk, hgd, hcd, breaks, h2, h3, -List.take_append_getElem]), (by simp (disch := first | omega | (simp; done) | fail) [wrap64c, if_pos, if_neg, opAnd, opOr, opXor, opDiff, opShr, opBit, hnt, hcs, hL, c1, h40', e0, e1, e4, e22, e23, e24, hg, hlt, e8, e9, hg2, hab, e10, e57, e58, e59, hli, q_x, g_x, l_x, r_x, z_x, q_y, g_y, l_y, r_y, z_y, l2_y, l3_y, z2_y, hgd, h2, h3] <;> omega), (by first | omega | assumption | (simp (disch := first | omega | (simp; done) | fail) [wrap64c, if_pos, if_neg, opAnd, opOr, opXor, opDiff, opShr, opBit, hnt, hcs, hL, c1, h40', e0, e1, e4, e22, e23, e24, hg, hlt, e8, e9, hg2, hab, e10, e57, e58, e59, hli, q_x, g_x, l_x, r_x, z_x, q_y, g_y, l_y, r_y, z_y, l2_y, l3_y, z2_y, hgd, h2, h3] <;> omega))⟩
                (case hm => first | omega | (simp; omega))
                (case hf => simp [FrameL, hnt, hcs, hL, c1, h40', e0, e1, e4, e22, e23, e24, hg, hlt, e8, e9, hg2, hab, e10, e57, e58, e59, hli, q_x, g_x, l_x, r_x, z_x, q_y, g_y, l_y, r_y, z_y, l2_y, l3_y, z2_y, hgd, h2, h3, f0_2, f1_2, f4_2, f8_2, f9_2, f57_2, f58_2])
              · try simp (disch := first | omega | (simp; done) | fail) [wrap64c, if_pos, if_neg, opAnd, opOr, opXor, opDiff, opShr, opBit, hnt, hcs, hL, c1, h40', e0, e1, e4, e22, e23, e24, hg, hlt, e8, e9, hg2, hab, e10, e57, e58, e59, hli, q_x, g_x, l_x, r_x, z_x, q_y, g_y, l_y, r_y, z_y, l2_y, l3_y, z2_y, hgd, h2, h3]
                refine loopK_next _ ?hm ?hf ⟨i + 1, rfl, rfl, (by simp [htk, hgd, hcd, breaks, h2, h3, -List.take_append_getElem]), (by simp (disch := first | omega | (simp; done) | fail) [wrap64c, if_pos, if_neg, opAnd, opOr, opXor, opDiff, opShr, opBit, hnt, hcs, hL, c1, h40', e0, e1, e4, e22, e23, e24, hg, hlt, e8, e9, hg2, hab, e10, e57, e58, e59, hli, q_x, g_x, l_x, r_x, z_x, q_y, g_y, l_y, r_y, z_y, l2_y, l3_y, z2_y, hgd, h2, h3] <;> omega), (by first | omega | assumption | (simp (disch := first | omega | (simp; done) | fail) [wrap64c, if_pos, if_neg, opAnd, opOr, opXor, opDiff, opShr, opBit, hnt, hcs, hL, c1, h40', e0, e1, e4, e22, e23, e24, hg, hlt, e8, e9, hg2, hab, e10, e57, e58, e59, hli, q_x, g_x, l_x, r_x, z_x, q_y, g_y, l_y, r_y, z_y, l2_y, l3_y, z2_y, hgd, h2, h3] <;> omega))⟩
                (case hm => first | omega | (simp; omega))
                (case hf => simp [FrameL, hnt, hcs, hL, c1, h40', e0, e1, e4, e22, e23, e24, hg, hlt, e8, e9, hg2, hab, e10, e57, e58, e59, hli, q_x, g_x, l_x, r_x, z_x, q_y, g_y, l_y, r_y, z_y, l2_y, l3_y, z2_y, hgd, h2, h3, f0_2, f1_2, f4_2, f8_2, f9_2, f57_2, f58_2])
          · try simp (disch := first | omega | (simp; done) | fail) [wrap64c, if_pos, if_neg, opAnd, opOr, opXor, opDiff, opShr, opBit, hnt, hcs, hL, c1, h40', e0, e1, e4, e22, e23, e24, hg, hlt, e8, e9, hg2, hab, e10, e57, e58, e59, hli, q_x, g_x, l_x, r_x, z_x, q_y, g_y, l_y, r_y, z_y, l2_y, l3_y, z2_y, hgd]
            refine loopK_next _ ?hm ?hf ⟨i + 1, rfl, rfl, (by simp [htk, hgd, -List.take_append_getElem]), (by simp (disch := first | omega | (simp; done) | fail) [wrap64c, if_pos, if_neg, opAnd, opOr, opXor, opDiff, opShr, opBit, hnt, hcs, hL, c1, h40', e0, e1, e4, e22, e23, e24, hg, hlt, e8, e9, hg2, hab, e10, e57, e58, e59, hli, q_x, g_x, l_x, r_x, z_x, q_y, g_y, l_y, r_y, z_y, l2_y, l3_y, z2_y, hgd] <;> omega), (by first | omega | assumption | (simp (disch := first | omega | (simp; done) | fail) [wrap64c, if_pos, if_neg, opAnd, opOr, opXor, opDiff, opShr, opBit, hnt, hcs, hL, c1, h40', e0, e1, e4, e22, e23, e24, hg, hlt, e8, e9, hg2, hab, e10, e57, e58, e59, hli, q_x, g_x, l_x, r_x, z_x, q_y, g_y, l_y, r_y, z_y, l2_y, l3_y, z2_y, hgd] <;> omega))⟩
            (case hm => first | omega | (simp; omega))
            (case hf => simp [FrameL, hnt, hcs, hL, c1, h40', e0, e1, e4, e22, e23, e24, hg, hlt, e8, e9, hg2, hab, e10, e57, e58, e59, hli, q_x, g_x, l_x, r_x, z_x, q_y, g_y, l_y, r_y, z_y, l2_y, l3_y, z2_y, hgd, f0_2, f1_2, f4_2, f8_2, f9_2, f57_2, f58_2])
        · have hie : i = L.length := by omega
          have hfs := famK_succ (keepsB L) a
          rw [hie, List.take_length] at e10
          cases hc : L.any (breaks a)
          · rw [if_pos (by simp [keepsB, hc])] at hfs
            have ntu := (hw.own (by simp; omega)).nt
            have csu := (hw.own (by simp; omega)).cs
            have gq0 : hq2.get h.next = .cells [.int .i64 0, .slice none 0 0] true true 1 := by rw [ha2.1.2 _ (by omega)]; exact hg
            try simp (disch := first | omega | (simp; done) | fail) [wrap64c, if_pos, if_neg, opAnd, opOr, opXor, opDiff, opShr, opBit, hnt, hcs, hL, c1, h40', e0, e1, e4, e22, e23, e24, hg, hlt, e8, e9, hg2, hab, e10, e57, e58, e59, hli, hc, ntu, csu]
            obtain ⟨u2, h4, hap, hu2, ha4, hn4, hs4⟩ := appI hw (a : Int) (by simp; omega) hnn ha2 (by omega)
            have gq : h4.get hq.next = .cells [.int .i64 (n : Int), w] true true 1 := by rw [hs4 _ (by omega) (by omega)]; exact hg2
            have nt2 := (hu2.own (by simp; omega)).nt
            have cs2 := (hu2.own (by simp; omega)).cs
            try simp (disch := first | omega | (simp; done) | fail) [wrap64c, if_pos, if_neg, opAnd, opOr, opXor, opDiff, opShr, opBit, hnt, hcs, hL, c1, h40', e0, e1, e4, e22, e23, e24, hg, hlt, e8, e9, hg2, hab, e10, e57, e58, e59, hli, hc, ntu, csu, gq, nt2, cs2, hap, putCells]
            refine loopK_next _ ?hm ?hf ⟨a + 1, u2, rfl, (by simp (disch := first | omega | (simp; done) | fail) [wrap64c, if_pos, if_neg, opAnd, opOr, opXor, opDiff, opShr, opBit, hnt, hcs, hL, c1, h40', e0, e1, e4, e22, e23, e24, hg, hlt, e8, e9, hg2, hab, e10, e57, e58, e59, hli, hc, ntu, csu, gq, nt2, cs2] <;> omega), (by first | omega | assumption | (simp (disch := first | omega | (simp; done) | fail) [wrap64c, if_pos, if_neg, opAnd, opOr, opXor, opDiff, opShr, opBit, hnt, hcs, hL, c1, h40', e0, e1, e4, e22, e23, e24, hg, hlt, e8, e9, hg2, hab, e10, e57, e58, e59, hli, hc, ntu, csu, gq, nt2, cs2] <;> omega)), (by first | exact aK | exact kK), (by rw [hfs, toN_snoc]; exact IntsA.putB hu2 (by omega) _), (by simp), (by simp; omega)⟩
            (case hm => first | omega | (simp; omega))
            (case hf => simp [FrameL, hnt, hcs, hL, c1, h40', e0, e1, e4, e22, e23, e24, hg, hlt, e8, e9, hg2, hab, e10, e57, e58, e59, hli, hc, ntu, csu, gq, nt2, cs2, f0_1, f1_1, f4_1, f8_1])
          · rw [if_neg (by simp [keepsB, hc])] at hfs
            try simp (disch := first | omega | (simp; done) | fail) [wrap64c, if_pos, if_neg, opAnd, opOr, opXor, opDiff, opShr, opBit, hnt, hcs, hL, c1, h40', e0, e1, e4, e22, e23, e24, hg, hlt, e8, e9, hg2, hab, e10, e57, e58, e59, hli, hc]
            refine loopK_next _ ?hm ?hf ⟨a + 1, w, rfl, (by simp (disch := first | omega | (simp; done) | fail) [wrap64c, if_pos, if_neg, opAnd, opOr, opXor, opDiff, opShr, opBit, hnt, hcs, hL, c1, h40', e0, e1, e4, e22, e23, e24, hg, hlt, e8, e9, hg2, hab, e10, e57, e58, e59, hli, hc] <;> omega), (by first | omega | assumption | (simp (disch := first | omega | (simp; done) | fail) [wrap64c, if_pos, if_neg, opAnd, opOr, opXor, opDiff, opShr, opBit, hnt, hcs, hL, c1, h40', e0, e1, e4, e22, e23, e24, hg, hlt, e8, e9, hg2, hab, e10, e57, e58, e59, hli, hc] <;> omega)), (by first | omega | assumption | (simp (disch := first | omega | (simp; done) | fail) [wrap64c, if_pos, if_neg, opAnd, opOr, opXor, opDiff, opShr, opBit, hnt, hcs, hL, c1, h40', e0, e1, e4, e22, e23, e24, hg, hlt, e8, e9, hg2, hab, e10, e57, e58, e59, hli, hc] <;> omega)), (by rw [hfs]; exact hw), (by first | omega | assumption | (simp (disch := first | omega | (simp; done) | fail) [wrap64c, if_pos, if_neg, opAnd, opOr, opXor, opDiff, opShr, opBit, hnt, hcs, hL, c1, h40', e0, e1, e4, e22, e23, e24, hg, hlt, e8, e9, hg2, hab, e10, e57, e58, e59, hli, hc] <;> omega)), (by first | omega | assumption | (simp (disch := first | omega | (simp; done) | fail) [wrap64c, if_pos, if_neg, opAnd, opOr, opXor, opDiff, opShr, opBit, hnt, hcs, hL, c1, h40', e0, e1, e4, e22, e23, e24, hg, hlt, e8, e9, hg2, hab, e10, e57, e58, e59, hli, hc] <;> omega))⟩
            (case hm => first | omega | (simp; omega))
            (case hf => simp [FrameL, hnt, hcs, hL, c1, h40', e0, e1, e4, e22, e23, e24, hg, hlt, e8, e9, hg2, hab, e10, e57, e58, e59, hli, hc, f0_1, f1_1, f4_1, f8_1])
      · have hae : a = bit n := by omega
        rw [hae] at hw
        have hol := ordL_len n L
        have hO : IntsO (Btw (hq.next + 1) hq2.next) hq2 w (toN (ordL n L)) := hw.own (by show (toN (ordL n L)).length < _; simp; omega)
        obtain ⟨h5, hc5, ha5⟩ := spIf_ok hq2 w n (toN (ordL n L)) _ hO (fun o ho => ho.2) (by simp; omega)
        have A := (ha.trans ha2).trans ha5
        have m5 := ha5.1.1
        have gq0 : h5.get h.next = .cells [.int .i64 0, .slice none 0 0] true true 1 := by rw [ha5.1.2 _ (by omega), ha2.1.2 _ (by omega)]; exact hg
        have ntu := hO.nt
        have csu := hO.cs
        try simp (disch := first | omega | (simp; done) | fail) [wrap64c, if_pos, if_neg, opAnd, opOr, opXor, opDiff, opShr, opBit, hnt, hcs, hL, c1, h40', e0, e1, e4, e22, e23, e24, hg, hlt, e8, e9, hg2, hab, gq0, ntu, csu]
        refine callG_c (by simp) (by simp) ?ha (hc5) ?_
        (case ha => simp (disch := first | omega | (simp; done) | fail) [wrap64c, if_pos, if_neg, opAnd, opOr, opXor, opDiff, opShr, opBit, hnt, hcs, hL, c1, h40', e0, e1, e4, e22, e23, e24, hg, hlt, e8, e9, hg2, hab, gq0, ntu, csu])
        cases c3 : spB n (toN (ordL n L))
        · have hk : ordOK n L = false := by simp [ordOK, c1, c2, c3]
          try simp (disch := first | omega | (simp; done) | fail) [wrap64c, if_pos, if_neg, opAnd, opOr, opXor, opDiff, opShr, opBit, hnt, hcs, hL, c1, h40', e0, e1, e4, e22, e23, e24, hg, hlt, e8, e9, hg2, hab, gq0, ntu, csu, c3, hk, putCells]
          refine done_ret (by simp [putCells, e4]; rfl) ⟨(by first | exact aK | exact kK), .agg #[.int .i64 0, .slice none 0 0], by simp [hk], ?_⟩
          simp only [ordN, ordX, hk]
          exact ⟨_, rfl, .nil _ _⟩
        · have hk : ordOK n L = true := by simp [ordOK, c1, c2, c3]
          try simp (disch := first | omega | (simp; done) | fail) [wrap64c, if_pos, if_neg, opAnd, opOr, opXor, opDiff, opShr, opBit, hnt, hcs, hL, c1, h40', e0, e1, e4, e22, e23, e24, hg, hlt, e8, e9, hg2, hab, gq0, ntu, csu, c3, hk, putCells]
          refine done_ret (by simp [putCells, e4]; rfl) ⟨(by first | exact aK | exact kK), .agg #[.int .i64 n, w], by simp [hk], ?_⟩
          simp only [ordN, ordX, hk, if_true]
          exact ⟨w, rfl, ((hO.keep ha5.1).same (Same.put (Same.refl _ _) (by unfold Btw; omega) _)).sub fun o ho => ⟨by have := ho.1; omega, by have := ho.2; simp; omega⟩⟩
end Go.Proofs.Ytnncipcldbopgaa
namespace Go.Proofs.Ytnncipcldbopgaa
set_option linter.unusedSimpArgs false
set_option linter.unusedVariables false
set_option maxHeartbeats 4000000
open Go Go.Eng
attribute [local irreducible] WD RunD PreD Runs CallOK
def upPairs (n : Nat) (L : List (List Int)) : Prop := ∀ x ∈ L, ∃ a b : Nat, x = [(a : Int), (b : Int)] ∧ a < b ∧ b < n
def SpaceF (F : Nat → Prop) (h : Hp) (v : Value) (N : Int) (X : List Int) : Prop := ∃ b, v = .agg #[.int .i64 N, b] ∧ IntsF F h b X
theorem appPair {n : Nat} {h0 h : Hp} {v : Value} {L : List (List Int)} (hs : IRowsA n h v L) (a b : Int) (hl : L.length < 2 ^ 39) (hn : n ≤ h.next) (hA : Adds h0 h) (h0n : h0.next ≤ n) :
    ∃ v' h', appendD Try.prog 83 83 v (.slice (some ⟨h.next + 1, 0, none⟩) 1 1) ((h.alloc (.cells [.int .i64 a, .int .i64 b] true true 1)).alloc (.cells [.slice (some ⟨h.next, 0, none⟩) 2 2] true true 1)) = some (v', h') ∧ IRowsA n h' v' (L ++ [[a, b]]) ∧ Adds h0 h' ∧ h.next < h'.next ∧ ∀ o, o < h.next → o < n → h'.get o = h.get o := by
  have k1 : Adds h (h.alloc (.cells [.int .i64 a, .int .i64 b] true true 1)) := (by first | exact aK | exact kK)
  obtain ⟨v', h', g1, g2, g3, g4, g5⟩ := appR (h := h.alloc (.cells [.int .i64 a, .int .i64 b] true true 1)) (u := .slice (some ⟨h.next, 0, none⟩) 2 2) (r := [a, b]) hs k1.1 (IntsO.mk (xs := [a, b]) (ex := true) (show Btw h.next _ h.next from ⟨Nat.le_refl _, by simp⟩) (by simp) (by simp) (by simp)) (by omega) hn (hA.trans k1) h0n
  exact ⟨v', h', g1, g2, g3, by simp at g4; omega, fun o ho hon => by rw [g5 o (by simp; omega) hon]; simp [Nat.ne_of_lt ho]⟩
end Go.Proofs.Ytnncipcldbopgaa
namespace Go.Proofs.Ytnncipcldbopgaa
set_option linter.unusedSimpArgs false
set_option linter.unusedVariables false
set_option maxHeartbeats 4000000
open Go Go.Eng
attribute [local irreducible] WD RunD PreD Runs CallOK
end Go.Proofs.Ytnncipcldbopgaa
namespace Go.Proofs.Ytnncipcldbopgaa
set_option linter.unusedSimpArgs false
set_option linter.unusedVariables false
set_option maxHeartbeats 4000000
open Go Go.Eng
attribute [local irreducible] WD RunD PreD Runs CallOK
theorem leastD_ok (h : Hp) (a b : Int) : CallOK Try.prog 194 #[.int .i64 a, .int .i64 b] h (.int .i64 (if a < b then a else b)) h := by
  refine callY_P 10 _ [.tmp 4] Try.func194 rfl rfl rfl (by first | rfl | simp) ?_
  by_cases hc : a < b
  · try simp (disch := first | omega | (simp; done) | fail) [wrap64c, if_pos, if_neg, opAnd, opOr, opXor, opDiff, opShr, opBit, hc]
    exact done_ret rfl (by simp [hc])
  · try simp (disch := first | omega | (simp; done) | fail) [wrap64c, if_pos, if_neg, opAnd, opOr, opXor, opDiff, opShr, opBit, hc]
    exact done_ret rfl (by simp [hc])
end Go.Proofs.Ytnncipcldbopgaa
namespace Go.Proofs.Ytnncipcldbopgaa
set_option linter.unusedSimpArgs false
set_option linter.unusedVariables false
set_option maxHeartbeats 4000000
open Go Go.Eng
attribute [local irreducible] WD RunD PreD Runs CallOK
theorem bytes_old {h : Hp} {v : Value} {xs : List Int} (hs : Bytes h v xs) : BytesF h.next h v xs := by
  obtain ⟨s, c, e, hc, hc', hx⟩ := hs
  exact ⟨s, c, e, hc, hc', fun k x hk => let ⟨o, i, cs, own, ex, es, h1, h2, h3, h4, h5⟩ := hx k x hk; ⟨o, i, cs, own, ex, es, h1, h2, h2, h3, h4, h5⟩⟩
theorem big_ok (h : Hp) (v w : Value) (xs ys : List Int) (hv : Bytes h v xs) (hw : Bytes h w ys) : CallOK Try.prog 11 #[v, w] h (.bool (decide (1048576 < xs.length ∨ 1048576 - (xs.length : Int) < ys.length))) h := by
  refine callY_P 16 _ [.tmp 4] Try.func11 rfl rfl rfl (by first | rfl | simp) ?_
  have hL := hv.lenD
  have hM := hw.lenD
  have l1 := hv.len
  have l2 := hw.len
  by_cases c1 : 1048576 < xs.length
  · have c1' : (1048576 : Int) < (xs.length : Int) := by omega
    try simp (disch := first | omega | (simp; done) | fail) [wrap64c, if_pos, if_neg, hL, hM, c1']
    exact done_ret rfl (by simp [c1])
  · have c1' : ¬ (1048576 : Int) < (xs.length : Int) := by omega
    by_cases c2 : 1048576 - (xs.length : Int) < ys.length
    · try simp (disch := first | omega | (simp; done) | fail) [wrap64c, if_pos, if_neg, hL, hM, c1', c2]
      exact done_ret rfl (by simp [c2])
    · try simp (disch := first | omega | (simp; done) | fail) [wrap64c, if_pos, if_neg, hL, hM, c1', c2]
      exact done_ret rfl (by simp [c1, c2])
theorem iSame_ok (h : Hp) (v w : Value) (X Y : List Int) (hv : Ints h v X) (hw : Ints h w Y) : CallOK Try.prog 94 #[v, w] h (.bool (decide (X = Y))) h := by
  refine callY_P 26 _ [.tmp 4] Try.func94 rfl rfl rfl (by first | rfl | simp) ?_
  have hL := hv.lenD
  have hM := hw.lenD
  have hlx := hv.len
  have hly := hw.len
  by_cases hl : X.length = Y.length
  · have hlb : ((X.length : Int) != (Y.length : Int)) = false := by simp [hl]
    try simp (disch := first | omega | (simp; done) | fail) [wrap64c, if_pos, if_neg, hL, hM, hlb]
    refine WD_loopC [0, 1, 12] (fun m tm h' => ∃ j, m = X.length - j ∧ h = h' ∧ tm 13 = .int .i64 (j : Int) ∧ (j ≤ X.length) ∧ (∀ i (h1 : i < X.length) (h2 : i < Y.length), i < j → X[i] = Y[i])) _ ⟨0, rfl, rfl, (by simp (disch := first | omega | (simp; done) | fail) [wrap64c, if_pos, if_neg, hL, hM, hlb]), (by first | omega | assumption | (simp (disch := first | omega | (simp; done) | fail) [wrap64c, if_pos, if_neg, hL, hM, hlb] <;> omega)), (by intro i h1 h2 h3; omega)⟩ ?_
    rintro m tm h' hFr ⟨j, rfl, rfl, e13, hj, hx⟩
    simp only [FrameL] at hFr
    obtain ⟨f0_0, f1_0, f12_0, -⟩ := hFr
    try simp (disch := first | omega | (simp; done) | fail) [wrap64c, if_pos, if_neg, hL, hM, hlb] at f0_0 f1_0 f12_0
    have e0 := f0_0
    have e1 := f1_0
    have e12 := f12_0
    by_cases hlt : j < X.length
    · have hlt2 : j < Y.length := by omega
      obtain ⟨o_x, i_x, c_x, cs_x, own_x, ex_x, es_x, q_x, b_x, g_x, l_x, r_x⟩ := hv.open ((by omega))
      have z_x : ∀ h2 : i_x < cs_x.length, cs_x[i_x] = _ := fun h2 => r_x 0 ((by omega)) h2
      obtain ⟨o_y, i_y, c_y, cs_y, own_y, ex_y, es_y, q_y, b_y, g_y, l_y, r_y⟩ := hw.open ((by omega))
      have z_y : ∀ h2 : i_y < cs_y.length, cs_y[i_y] = _ := fun h2 => r_y 0 ((by omega)) h2
      try simp (disch := first | omega | (simp; done) | fail) [wrap64c, if_pos, if_neg, hL, hM, hlb, e0, e1, e12, e13, hlt, hlt2, q_x, g_x, l_x, r_x, z_x, q_y, g_y, l_y, r_y, z_y]
      refine WD_drawC 8 rfl (by kernel_rfl) ?_
      by_cases he : X[j] = Y[j]
      · have hb : (X[j] != Y[j]) = false := by simp [he]
        try simp (disch := first | omega | (simp; done) | fail) [wrap64c, if_pos, if_neg, hL, hM, hlb, e0, e1, e12, e13, hlt, hlt2, q_x, g_x, l_x, r_x, z_x, q_y, g_y, l_y, r_y, z_y, hb]
        refine loopK_next _ ?hm ?hf ⟨j + 1, rfl, rfl, (by simp (disch := first | omega | (simp; done) | fail) [wrap64c, if_pos, if_neg, hL, hM, hlb, e0, e1, e12, e13, hlt, hlt2, q_x, g_x, l_x, r_x, z_x, q_y, g_y, l_y, r_y, z_y] <;> omega), (by first | omega | assumption | (simp (disch := first | omega | (simp; done) | fail) [wrap64c, if_pos, if_neg, hL, hM, hlb, e0, e1, e12, e13, hlt, hlt2, q_x, g_x, l_x, r_x, z_x, q_y, g_y, l_y, r_y, z_y] <;> omega)), ?c_hx⟩
        (case hm => first | omega | (simp; omega))
        (case hf => simp [FrameL, hL, hM, hlb, e0, e1, e12, e13, hlt, hlt2, q_x, g_x, l_x, r_x, z_x, q_y, g_y, l_y, r_y, z_y, f0_0, f1_0, f12_0])
        case c_hx =>
          exact (fun i h1 h2 hi => by
            by_cases e : i = j
            · subst e; exact he
            · exact hx i h1 h2 (by omega))
      · have hb : (X[j] != Y[j]) = true := by simp [he]
        have hne : ¬ X = Y := fun e => he (by subst e; rfl)
        try simp (disch := first | omega | (simp; done) | fail) [wrap64c, if_pos, if_neg, hL, hM, hlb, e0, e1, e12, e13, hlt, hlt2, q_x, g_x, l_x, r_x, z_x, q_y, g_y, l_y, r_y, z_y, hb]
        exact done_ret rfl (by simp [hne])
    · try simp (disch := first | omega | (simp; done) | fail) [wrap64c, if_pos, if_neg, hL, hM, hlb, e0, e1, e12, e13, hlt]
      have e : X = Y := List.ext_getElem hl fun i h1 h2 => hx i h1 h2 (by omega)
      exact done_ret rfl (by simp [e])
  · have hlb : ((X.length : Int) != (Y.length : Int)) = true := by simp; omega
    have hne : ¬ X = Y := fun e => hl (by rw [e])
    try simp (disch := first | omega | (simp; done) | fail) [wrap64c, if_pos, if_neg, hL, hM, hlb]
    exact done_ret rfl (by simp [hne])
end Go.Proofs.Ytnncipcldbopgaa
namespace Go.Proofs.Ytnncipcldbopgaa
set_option linter.unusedSimpArgs false
set_option linter.unusedVariables false
set_option maxHeartbeats 4000000
open Go Go.Eng
attribute [local irreducible] WD RunD PreD Runs CallOK
def greatF (y : Nat) : List Nat → Nat → Nat
  | [], o => o
  | x :: l, o => greatF y l (if ndiff x y = 0 then nOr o x else o)
def greatN (xs : List Nat) (y : Nat) : Nat := greatF y xs 0
def hullN (n : Nat) (xs : List Nat) (s : Nat) : Nat := ndiff (bit n - 1) (greatN xs (ndiff (bit n - 1) s))
def outHull (n : Nat) (xs : List Nat) (s i : Nat) : Bool := !(hullN n xs (ndiff s (bit i))).testBit i
def extN (n : Nat) (xs : List Nat) (s : Nat) : Nat := maskL (outHull n xs s) (itemsN s) 0
def isFreeN (n : Nat) (xs : List Nat) (a : Nat) : Bool := fam xs (ndiff (bit n - 1) a) && (outerN (fam xs) n (ndiff (bit n - 1) a) == a)
def freeK (n : Nat) (xs : List Nat) (k : Nat) : List Nat := (List.range k).filter (isFreeN n xs)
def freeN (n : Nat) (xs : List Nat) : List Nat := freeK n xs (bit n)
end Go.Proofs.Ytnncipcldbopgaa
namespace Go.Proofs.Ytnncipcldbopgaa
set_option linter.unusedSimpArgs false
set_option linter.unusedVariables false
set_option maxHeartbeats 4000000
open Go Go.Eng
attribute [local irreducible] WD RunD PreD Runs CallOK
noncomputable def inB (N : Int) (X : List Int) (a : Int) : Bool := spB N X && setB N.toNat a
noncomputable def outerR (N : Int) (X : List Int) (a : Int) : Int := if oneB N X a = true then ((outerN (fam (natsOf X)) N.toNat a.toNat : Nat) : Int) else 0
noncomputable def innerR (N : Int) (X : List Int) (a : Int) : Int := if oneB N X a = true then ((innerN (fam (natsOf X)) a.toNat : Nat) : Int) else 0
noncomputable def greatR (N : Int) (X : List Int) (a : Int) : Int := if inB N X a = true then ((greatN (natsOf X) a.toNat : Nat) : Int) else 0
end Go.Proofs.Ytnncipcldbopgaa
namespace Go.Proofs.Ytnncipcldbopgaa
set_option linter.unusedSimpArgs false
set_option linter.unusedVariables false
set_option maxHeartbeats 4000000
open Go Go.Eng
attribute [local irreducible] WD RunD PreD Runs CallOK
end Go.Proofs.Ytnncipcldbopgaa
namespace Go.Proofs.Ytnncipcldbopgaa
set_option linter.unusedSimpArgs false
set_option linter.unusedVariables false
set_option maxHeartbeats 4000000
open Go Go.Eng
attribute [local irreducible] WD RunD PreD Runs CallOK
def Desk (h : Hp) (v : Value) (N : Int) (X : List Int) (D : Int) : Prop := ∃ b, v = .agg #[.int .i64 N, b, .int .i64 D] ∧ Ints h b X
def DeskO (S : Nat → Prop) (h : Hp) (v : Value) (N : Int) (X : List Int) (D : Int) : Prop := ∃ b, v = .agg #[.int .i64 N, b, .int .i64 D] ∧ IntsO S h b X
def desk0 : List Int := [0, 1, 2, 3, 5, 6, 7]
end Go.Proofs.Ytnncipcldbopgaa
namespace Go.Eng
open Go.ChangeShapes Go.WideShapes Go.Deep
structure Job where
  ti : Int
  ra : Int
  ba : Int
instance : Inhabited Job := ⟨⟨0, 0, 0⟩⟩
def jobL (j : Job) : List Value := [.int .i64 j.ti, .int .i64 j.ra, .int .i64 j.ba]
def jobV (j : Job) : Value := .agg #[.int .i64 j.ti, .int .i64 j.ra, .int .i64 j.ba]
def jobsL (L : List Job) : List Value := L.flatMap jobL
def Jobs (h : Hp) (v : Value) (L : List Job) : Prop :=
  ∃ s c, v = .slice s L.length c ∧ L.length ≤ c ∧ c < 2 ^ 63 ∧ (L.length = 0 ∨ ∃ o i cs own ex es, s = some ⟨o, i, none⟩ ∧ o < h.next ∧ h.get o = .cells cs own ex es ∧ i + 3 * L.length ≤ cs.length ∧
    ∀ k (hk : k < L.length), cs[i + 3 * k]? = some (.int .i64 L[k].ti) ∧ cs[i + 3 * k + 1]? = some (.int .i64 L[k].ra) ∧ cs[i + 3 * k + 2]? = some (.int .i64 L[k].ba))
theorem Jobs.form {h : Hp} {v : Value} {L : List Job} (hs : Jobs h v L) : ∃ s c, v = .slice s L.length c ∧ L.length ≤ c ∧ c < 2 ^ 63 := by
  obtain ⟨s, c, e, h1, h2, _⟩ := hs; exact ⟨s, c, e, h1, h2⟩
theorem Jobs.keep {h h' : Hp} (k : Keeps h h') {v : Value} {L : List Job} (hs : Jobs h v L) : Jobs h' v L := by
  obtain ⟨s, c, e, h1, h2, h3⟩ := hs
  refine ⟨s, c, e, h1, h2, h3.imp id ?_⟩
  rintro ⟨o, i, cs, own, ex, es, g1, g2, g3, g4⟩
  exact ⟨o, i, cs, own, ex, es, g1, Nat.lt_of_lt_of_le g2 k.1, by rw [k.2 o g2]; exact g3, g4⟩
theorem Jobs.lenD {h : Hp} {v : Value} {L : List Job} (hs : Jobs h v L) : ∀ (P : Program) (t : TypeId), Go.Eng.lenD P t v = (elT P t).map fun _ => .int .i64 L.length := by
  obtain ⟨s, c, rfl, _⟩ := hs.form
  intro P t
  simp only [Go.Eng.lenD]
  cases elT P t <;> rfl
theorem Jobs.nt {h : Hp} {v : Value} {L : List Job} (hs : Jobs h v L) : notTup v = true := by obtain ⟨s, c, rfl, _⟩ := hs.form; rfl
theorem Jobs.cs {h : Hp} {v : Value} {L : List Job} (hs : Jobs h v L) : v.cells = #[v] := by obtain ⟨s, c, rfl, _⟩ := hs.form; rfl
def jobAt (L : List Job) (k : Nat) : Job := L.getD k default
theorem jobAt_eq {L : List Job} {k : Nat} (h : k < L.length) : jobAt L k = L[k] := by simp [jobAt, h]
theorem Jobs.open {h : Hp} {v : Value} {L : List Job} (hs : Jobs h v L) (hne : 0 < L.length) :
    ∃ o i c cs own ex es, v = .slice (some ⟨o, i, none⟩) L.length c ∧ o < h.next ∧ h.get o = .cells cs own ex es ∧ i + L.length * 3 ≤ cs.length ∧
      (∀ k, k < L.length → (cs.drop (i + k * 3)).take 3 = jobL (jobAt L k)) ∧ (∀ k, k < L.length → cs[i + k * 3]? = some (.int .i64 (jobAt L k).ti)) ∧ (∀ k, k < L.length → cs[i + k * 3 + 1]? = some (.int .i64 (jobAt L k).ra)) ∧ (∀ k, k < L.length → cs[i + k * 3 + 2]? = some (.int .i64 (jobAt L k).ba)) ∧
      (∀ k, k < L.length → ∀ h2 : i + k * 3 < cs.length, cs[i + k * 3] = .int .i64 (jobAt L k).ti) ∧ (∀ k, k < L.length → ∀ h2 : i + k * 3 + 1 < cs.length, cs[i + k * 3 + 1] = .int .i64 (jobAt L k).ra) ∧ (∀ k, k < L.length → ∀ h2 : i + k * 3 + 2 < cs.length, cs[i + k * 3 + 2] = .int .i64 (jobAt L k).ba) := by
  obtain ⟨s, c, e, h1, h2, h3⟩ := hs
  rcases h3 with h3 | ⟨o, i, cs, own, ex, es, g1, g2, g3, g4, g5⟩
  · omega
  · have g6 : ∀ k, k < L.length → cs[i + k * 3]? = some (.int .i64 (jobAt L k).ti) ∧ cs[i + k * 3 + 1]? = some (.int .i64 (jobAt L k).ra) ∧ cs[i + k * 3 + 2]? = some (.int .i64 (jobAt L k).ba) := by
      intro k hk
      have := g5 k hk
      rw [Nat.mul_comm] at this
      rw [jobAt_eq hk]
      exact this
    refine ⟨o, i, c, cs, own, ex, es, by rw [e, g1], g2, g3, by omega, fun k hk => ?_, fun k hk => (g6 k hk).1, fun k hk => (g6 k hk).2.1, fun k hk => (g6 k hk).2.2, fun k hk h2 => ?_, fun k hk h2 => ?_, fun k hk h2 => ?_⟩ <;> obtain ⟨a, b, d⟩ := g6 k hk
    · apply List.ext_getElem?
      intro j
      rw [List.getElem?_take]
      by_cases hj : j < 3
      · rw [if_pos hj, List.getElem?_drop]
        match j, hj with
        | 0, _ => simpa [jobL] using a
        | 1, _ => simpa [jobL] using b
        | 2, _ => simpa [jobL] using d
      · rw [if_neg hj]; simp [jobL]; omega
    · rw [List.getElem?_eq_getElem h2] at a; exact Option.some.inj a
    · rw [List.getElem?_eq_getElem h2] at b; exact Option.some.inj b
    · rw [List.getElem?_eq_getElem h2] at d; exact Option.some.inj d
theorem Jobs.nil (h : Hp) : Jobs h (.slice none 0 0) [] := ⟨none, 0, rfl, Nat.le_refl _, by decide, .inl rfl⟩
def jobsC (L : List Job) (j : Nat) : List Value := jobsL (L.take j) ++ List.replicate (3 * (L.length - j)) (.int .i64 0)
section
variable {H : Type} {enc : TypeId × Value → H} {P : Program} {W : World} {base : Nat} {held : Bool} {E : Emb} {h : Hp}
end
end Go.Eng
namespace Go.Proofs.Ytnncipcldbopgaa
set_option linter.unusedSimpArgs false
set_option linter.unusedVariables false
set_option maxHeartbeats 4000000
open Go Go.Eng
attribute [local irreducible] WD RunD PreD Runs CallOK
def szJ (k : Int) (L : List Job) : Int := if k - (L.length : Int) < 0 then -1 else k - L.length
noncomputable def eqJ (L M : List Job) : Bool := @decide (L = M) (Classical.propDecidable _)
def jobOK (j : Job) : Bool := decide ((1 ≤ j.ti ∧ j.ti ≤ 9) ∧ (0 ≤ j.ra ∧ j.ra ≤ 9) ∧ (-100 ≤ j.ba ∧ j.ba ≤ 100))
def jobsB (L : List Job) (N : Int) : Bool := sizeB N && decide ((L.length : Int) = N) && decide (∀ k, k < L.length → jobOK (jobAt L k) = true)
theorem jobOK_true {j : Job} (h : jobOK j = true) : (1 ≤ j.ti ∧ j.ti ≤ 9) ∧ (0 ≤ j.ra ∧ j.ra ≤ 9) ∧ (-100 ≤ j.ba ∧ j.ba ≤ 100) := of_decide_eq_true h
theorem jobsB_true {L : List Job} {N : Int} (h : jobsB L N = true) : sizeB N = true ∧ (L.length : Int) = N ∧ ∀ k, k < L.length → jobOK (jobAt L k) = true := by
  unfold jobsB at h
  simp only [Bool.and_eq_true, decide_eq_true_eq] at h
  exact ⟨h.1.1, h.1.2, h.2⟩
theorem jobsB_of {L : List Job} {N : Int} (h1 : sizeB N = true) (h2 : (L.length : Int) = N) (h3 : ∀ k, k < L.length → jobOK (jobAt L k) = true) : jobsB L N = true := by
  unfold jobsB
  simp only [Bool.and_eq_true, decide_eq_true_eq]
  exact ⟨⟨h1, h2⟩, h3⟩
theorem jobsB_no {L : List Job} {N : Int} (h : (sizeB N = true → (L.length : Int) = N → (∀ k, k < L.length → jobOK (jobAt L k) = true) → False)) : jobsB L N = false := by
  cases hb : jobsB L N
  · rfl
  · obtain ⟨h1, h2, h3⟩ := jobsB_true hb
    exact (h h1 h2 h3).elim
theorem jobBad_ok (h : Hp) (t r b : Int) : CallOK Try.prog 191 #[.agg #[.int .i64 t, .int .i64 r, .int .i64 b]] h (.bool (!jobOK ⟨t, r, b⟩)) h := by
  refine callY_P 19 _ [.tmp 2] Try.func191 rfl rfl rfl (by first | rfl | simp) ?_
  refine WD_first ?_
  try simp (disch := first | omega | (simp; done) | fail) [wrap64c, if_pos, if_neg, opAnd, opOr, opXor, opDiff, opShr, opBit]
  refine stopK_heap fun h0 q_h0 => ?_
  refine stopK_go ?_
  have g_h0 : h0.get h.next = .cells [.int .i64 t, .int .i64 r, .int .i64 b] true true 1 := by simp [q_h0]
  have k_h0 : Adds h h0 := by rw [q_h0]; exact (by first | exact aK | exact kK)
  have n_h0 : h.next < h0.next := by simp [q_h0]; try omega
  have K0 := k_h0.1
  try simp (disch := first | omega | (simp; done) | fail) [wrap64c, if_pos, if_neg, opAnd, opOr, opXor, opDiff, opShr, opBit, g_h0]
  refine callG_c (by simp) (by simp) ?ha (within_ok h0 t 1 9) ?_
  (case ha => simp (disch := first | omega | (simp; done) | fail) [wrap64c, if_pos, if_neg, opAnd, opOr, opXor, opDiff, opShr, opBit, g_h0])
  by_cases c1 : 1 ≤ t ∧ t ≤ 9
  · have d1 := decide_eq_true c1
    try simp (disch := first | omega | (simp; done) | fail) [wrap64c, if_pos, if_neg, opAnd, opOr, opXor, opDiff, opShr, opBit, g_h0, d1]
    refine callG_c (by simp) (by simp) ?ha (within_ok h0 r 0 9) ?_
    (case ha => simp (disch := first | omega | (simp; done) | fail) [wrap64c, if_pos, if_neg, opAnd, opOr, opXor, opDiff, opShr, opBit, g_h0, d1])
    by_cases c2 : 0 ≤ r ∧ r ≤ 9
    · have d2 := decide_eq_true c2
      try simp (disch := first | omega | (simp; done) | fail) [wrap64c, if_pos, if_neg, opAnd, opOr, opXor, opDiff, opShr, opBit, g_h0, d1, d2]
      refine callG_c (by simp) (by simp) ?ha (within_ok h0 b (-100) 100) ?_
      (case ha => simp (disch := first | omega | (simp; done) | fail) [wrap64c, if_pos, if_neg, opAnd, opOr, opXor, opDiff, opShr, opBit, g_h0, d1, d2])
      by_cases c3 : -100 ≤ b ∧ b ≤ 100
      · have d3 := decide_eq_true c3
        have hj : jobOK ⟨t, r, b⟩ = true := decide_eq_true ⟨c1, c2, c3⟩
        try simp (disch := first | omega | (simp; done) | fail) [wrap64c, if_pos, if_neg, opAnd, opOr, opXor, opDiff, opShr, opBit, g_h0, d1, d2, d3]
        exact done_ret rfl (by simp [hj, K0])
      · have d3 := decide_eq_false c3
        have hj : jobOK ⟨t, r, b⟩ = false := decide_eq_false fun e => c3 e.2.2
        try simp (disch := first | omega | (simp; done) | fail) [wrap64c, if_pos, if_neg, opAnd, opOr, opXor, opDiff, opShr, opBit, g_h0, d1, d2, d3]
        exact done_ret rfl (by simp [hj, K0])
    · have d2 := decide_eq_false c2
      have hj : jobOK ⟨t, r, b⟩ = false := decide_eq_false fun e => c2 e.2.1
      try simp (disch := first | omega | (simp; done) | fail) [wrap64c, if_pos, if_neg, opAnd, opOr, opXor, opDiff, opShr, opBit, g_h0, d1, d2]
      exact done_ret rfl (by simp [hj, K0])
  · have d1 := decide_eq_false c1
    have hj : jobOK ⟨t, r, b⟩ = false := decide_eq_false fun e => c1 e.1
    try simp (disch := first | omega | (simp; done) | fail) [wrap64c, if_pos, if_neg, opAnd, opOr, opXor, opDiff, opShr, opBit, g_h0, d1]
    exact done_ret rfl (by simp [hj, K0])
theorem indexJobs_ok (h : Hp) (v : Value) (L : List Job) (hv : Jobs h v L) :
    ∃ r : Int, CallOK Try.prog 244 #[v, .func (.func 191) #[] #[]] h (.int .i64 r) h ∧ ((0 ≤ r) ↔ ¬ ∀ k, k < L.length → jobOK (jobAt L k) = true) := by
  by_cases hall : ∀ k, k < L.length → jobOK (jobAt L k) = true
  · refine ⟨-1, ?_, by simp [hall]; omega⟩
    refine callY_P 19 _ [.tmp 4] Try.func244 rfl rfl rfl (by first | rfl | simp) ?_
    have hL := hv.lenD
    obtain ⟨s, c, hform, hlc, hcc⟩ := hv.form
    try simp (disch := first | omega | (simp; done) | fail) [wrap64c, if_pos, if_neg, opAnd, opOr, opXor, opDiff, opShr, opBit, hL]
    refine WD_loopC [0, 1, 7] (fun m tm h' => ∃ j, m = L.length - j ∧ h = h' ∧ tm 8 = .int .i64 (j : Int) ∧ (j ≤ L.length)) _ ⟨0, rfl, rfl, (by simp (disch := first | omega | (simp; done) | fail) [wrap64c, if_pos, if_neg, opAnd, opOr, opXor, opDiff, opShr, opBit, hL]), (by first | omega | assumption | (simp (disch := first | omega | (simp; done) | fail) [wrap64c, if_pos, if_neg, opAnd, opOr, opXor, opDiff, opShr, opBit, hL] <;> omega))⟩ ?_
    rintro m tm h' hFr ⟨j, rfl, rfl, e8, hj⟩
    simp only [FrameL] at hFr
    obtain ⟨f0_0, f1_0, f7_0, -⟩ := hFr
    try simp (disch := first | omega | (simp; done) | fail) [wrap64c, if_pos, if_neg, opAnd, opOr, opXor, opDiff, opShr, opBit, hL] at f0_0 f1_0 f7_0
    have e0 := f0_0
    have e1 := f1_0
    have e7 := f7_0
    by_cases hlt : j < L.length
    · obtain ⟨o_x, i_x, c_x, cs_x, own_x, ex_x, es_x, q_x, b_x, g_x, l_x, r_x, s_x, t_x, u_x, ra_x, rb_x, rc_x⟩ := hv.open ((by omega))
      have hk := hall j hlt
      try simp (disch := first | omega | (simp; done) | fail) [wrap64c, if_pos, if_neg, opAnd, opOr, opXor, opDiff, opShr, opBit, hL, e0, e1, e7, e8, hlt, q_x, g_x, l_x, r_x, s_x, t_x, u_x, ra_x, rb_x, rc_x, hk, jobL]
      refine callG_f (fst := #[]) (cap := #[]) (by simp) (by simp) ?hf ?hk ?ha (jobBad_ok h (jobAt L j).ti (jobAt L j).ra (jobAt L j).ba) ?_
      (case hf => simp (disch := first | omega | (simp; done) | fail) [wrap64c, if_pos, if_neg, opAnd, opOr, opXor, opDiff, opShr, opBit, hL, e0, e1, e7, e8, hlt, q_x, g_x, l_x, r_x, s_x, t_x, u_x, ra_x, rb_x, rc_x, hk, jobL]; try rfl)
      (case hk => simp (disch := first | omega | (simp; done) | fail) [wrap64c, if_pos, if_neg, opAnd, opOr, opXor, opDiff, opShr, opBit, hL, e0, e1, e7, e8, hlt, q_x, g_x, l_x, r_x, s_x, t_x, u_x, ra_x, rb_x, rc_x, hk, jobL])
      (case ha => simp (disch := first | omega | (simp; done) | fail) [wrap64c, if_pos, if_neg, opAnd, opOr, opXor, opDiff, opShr, opBit, hL, e0, e1, e7, e8, hlt, q_x, g_x, l_x, r_x, s_x, t_x, u_x, ra_x, rb_x, rc_x, hk, jobL])
      try simp (disch := first | omega | (simp; done) | fail) [wrap64c, if_pos, if_neg, opAnd, opOr, opXor, opDiff, opShr, opBit, hL, e0, e1, e7, e8, hlt, q_x, g_x, l_x, r_x, s_x, t_x, u_x, ra_x, rb_x, rc_x, hk]
      refine loopK_next _ ?hm ?hf ⟨j + 1, rfl, rfl, (by simp (disch := first | omega | (simp; done) | fail) [wrap64c, if_pos, if_neg, opAnd, opOr, opXor, opDiff, opShr, opBit, hL, e0, e1, e7, e8, hlt, q_x, g_x, l_x, r_x, s_x, t_x, u_x, ra_x, rb_x, rc_x, hk] <;> omega), (by first | omega | assumption | (simp (disch := first | omega | (simp; done) | fail) [wrap64c, if_pos, if_neg, opAnd, opOr, opXor, opDiff, opShr, opBit, hL, e0, e1, e7, e8, hlt, q_x, g_x, l_x, r_x, s_x, t_x, u_x, ra_x, rb_x, rc_x, hk] <;> omega))⟩
      (case hm => first | omega | (simp; omega))
      (case hf => simp [FrameL, hL, e0, e1, e7, e8, hlt, q_x, g_x, l_x, r_x, s_x, t_x, u_x, ra_x, rb_x, rc_x, hk, f0_0, f1_0, f7_0])
    · try simp (disch := first | omega | (simp; done) | fail) [wrap64c, if_pos, if_neg, opAnd, opOr, opXor, opDiff, opShr, opBit, hL, e0, e1, e7, e8, hlt]
      exact done_ret rfl (by simp)
  · have hex : ∃ k, k < L.length ∧ jobOK (jobAt L k) = false := by
      simp only [Classical.not_forall] at hall
      obtain ⟨k, hk, hb⟩ := hall
      exact ⟨k, hk, by simpa using hb⟩
    obtain ⟨k0, hk0, hb0⟩ := hex
    have key : ∀ k, k < L.length → jobOK (jobAt L k) = false → ∃ i, i ≤ k ∧ jobOK (jobAt L i) = false ∧ ∀ j, j < i → jobOK (jobAt L j) = true := by
      intro k
      induction k using Nat.strongRecOn with
      | _ k ih =>
        intro hk hb
        by_cases he : ∃ j, j < k ∧ jobOK (jobAt L j) = false
        · obtain ⟨j, hj, hb'⟩ := he
          obtain ⟨i, hi, h1, h2⟩ := ih j hj (by omega) hb'
          exact ⟨i, by omega, h1, h2⟩
        · exact ⟨k, Nat.le_refl _, hb, fun j hj => by
            cases hq : jobOK (jobAt L j)
            · exact (he ⟨j, hj, hq⟩).elim
            · rfl⟩
    obtain ⟨i, hi, hbi, hlo⟩ := key k0 hk0 hb0
    refine ⟨(i : Int), ?_, by simp only [hall, not_false_iff, iff_true]; omega⟩
    refine callY_P 19 _ [.tmp 4] Try.func244 rfl rfl rfl (by first | rfl | simp) ?_
    have hL := hv.lenD
    obtain ⟨s, c, hform, hlc, hcc⟩ := hv.form
    try simp (disch := first | omega | (simp; done) | fail) [wrap64c, if_pos, if_neg, opAnd, opOr, opXor, opDiff, opShr, opBit, hL]
    refine WD_loopC [0, 1, 7] (fun m tm h' => ∃ j, m = L.length - j ∧ h = h' ∧ tm 8 = .int .i64 (j : Int) ∧ (j ≤ i)) _ ⟨0, rfl, rfl, (by simp (disch := first | omega | (simp; done) | fail) [wrap64c, if_pos, if_neg, opAnd, opOr, opXor, opDiff, opShr, opBit, hL]), (by first | omega | assumption | (simp (disch := first | omega | (simp; done) | fail) [wrap64c, if_pos, if_neg, opAnd, opOr, opXor, opDiff, opShr, opBit, hL] <;> omega))⟩ ?_
    rintro m tm h' hFr ⟨j, rfl, rfl, e8, hj⟩
    simp only [FrameL] at hFr
    obtain ⟨f0_0, f1_0, f7_0, -⟩ := hFr
    try simp (disch := first | omega | (simp; done) | fail) [wrap64c, if_pos, if_neg, opAnd, opOr, opXor, opDiff, opShr, opBit, hL] at f0_0 f1_0 f7_0
    have e0 := f0_0
    have e1 := f1_0
    have e7 := f7_0
    have hlt : j < L.length := by omega
    obtain ⟨o_x, i_x, c_x, cs_x, own_x, ex_x, es_x, q_x, b_x, g_x, l_x, r_x, s_x, t_x, u_x, ra_x, rb_x, rc_x⟩ := hv.open ((by omega))
    by_cases hji : j = i
    · have hk : jobOK (jobAt L j) = false := by rw [hji]; exact hbi
      try simp (disch := first | omega | (simp; done) | fail) [wrap64c, if_pos, if_neg, opAnd, opOr, opXor, opDiff, opShr, opBit, hL, e0, e1, e7, e8, hlt, q_x, g_x, l_x, r_x, s_x, t_x, u_x, ra_x, rb_x, rc_x, hk, jobL]
      refine callG_f (fst := #[]) (cap := #[]) (by simp) (by simp) ?hf ?hk ?ha (jobBad_ok h (jobAt L j).ti (jobAt L j).ra (jobAt L j).ba) ?_
      (case hf => simp (disch := first | omega | (simp; done) | fail) [wrap64c, if_pos, if_neg, opAnd, opOr, opXor, opDiff, opShr, opBit, hL, e0, e1, e7, e8, hlt, q_x, g_x, l_x, r_x, s_x, t_x, u_x, ra_x, rb_x, rc_x, hk, jobL]; try rfl)
      (case hk => simp (disch := first | omega | (simp; done) | fail) [wrap64c, if_pos, if_neg, opAnd, opOr, opXor, opDiff, opShr, opBit, hL, e0, e1, e7, e8, hlt, q_x, g_x, l_x, r_x, s_x, t_x, u_x, ra_x, rb_x, rc_x, hk, jobL])
      (case ha => simp (disch := first | omega | (simp; done) | fail) [wrap64c, if_pos, if_neg, opAnd, opOr, opXor, opDiff, opShr, opBit, hL, e0, e1, e7, e8, hlt, q_x, g_x, l_x, r_x, s_x, t_x, u_x, ra_x, rb_x, rc_x, hk, jobL])
      try simp (disch := first | omega | (simp; done) | fail) [wrap64c, if_pos, if_neg, opAnd, opOr, opXor, opDiff, opShr, opBit, hL, e0, e1, e7, e8, hlt, q_x, g_x, l_x, r_x, s_x, t_x, u_x, ra_x, rb_x, rc_x, hk]
      exact done_ret rfl (by simp [hji])
    · have hk := hlo j (by omega)
      try simp (disch := first | omega | (simp; done) | fail) [wrap64c, if_pos, if_neg, opAnd, opOr, opXor, opDiff, opShr, opBit, hL, e0, e1, e7, e8, hlt, q_x, g_x, l_x, r_x, s_x, t_x, u_x, ra_x, rb_x, rc_x, hk, jobL]
      refine callG_f (fst := #[]) (cap := #[]) (by simp) (by simp) ?hf ?hk ?ha (jobBad_ok h (jobAt L j).ti (jobAt L j).ra (jobAt L j).ba) ?_
      (case hf => simp (disch := first | omega | (simp; done) | fail) [wrap64c, if_pos, if_neg, opAnd, opOr, opXor, opDiff, opShr, opBit, hL, e0, e1, e7, e8, hlt, q_x, g_x, l_x, r_x, s_x, t_x, u_x, ra_x, rb_x, rc_x, hk, jobL]; try rfl)
      (case hk => simp (disch := first | omega | (simp; done) | fail) [wrap64c, if_pos, if_neg, opAnd, opOr, opXor, opDiff, opShr, opBit, hL, e0, e1, e7, e8, hlt, q_x, g_x, l_x, r_x, s_x, t_x, u_x, ra_x, rb_x, rc_x, hk, jobL])
      (case ha => simp (disch := first | omega | (simp; done) | fail) [wrap64c, if_pos, if_neg, opAnd, opOr, opXor, opDiff, opShr, opBit, hL, e0, e1, e7, e8, hlt, q_x, g_x, l_x, r_x, s_x, t_x, u_x, ra_x, rb_x, rc_x, hk, jobL])
      try simp (disch := first | omega | (simp; done) | fail) [wrap64c, if_pos, if_neg, opAnd, opOr, opXor, opDiff, opShr, opBit, hL, e0, e1, e7, e8, hlt, q_x, g_x, l_x, r_x, s_x, t_x, u_x, ra_x, rb_x, rc_x, hk]
      refine loopK_next _ ?hm ?hf ⟨j + 1, rfl, rfl, (by simp (disch := first | omega | (simp; done) | fail) [wrap64c, if_pos, if_neg, opAnd, opOr, opXor, opDiff, opShr, opBit, hL, e0, e1, e7, e8, hlt, q_x, g_x, l_x, r_x, s_x, t_x, u_x, ra_x, rb_x, rc_x, hk] <;> omega), (by first | omega | assumption | (simp (disch := first | omega | (simp; done) | fail) [wrap64c, if_pos, if_neg, opAnd, opOr, opXor, opDiff, opShr, opBit, hL, e0, e1, e7, e8, hlt, q_x, g_x, l_x, r_x, s_x, t_x, u_x, ra_x, rb_x, rc_x, hk] <;> omega))⟩
      (case hm => first | omega | (simp; omega))
      (case hf => simp [FrameL, hL, e0, e1, e7, e8, hlt, q_x, g_x, l_x, r_x, s_x, t_x, u_x, ra_x, rb_x, rc_x, hk, f0_0, f1_0, f7_0])
theorem containsJobs_ok (h : Hp) (v : Value) (L : List Job) (hv : Jobs h v L) :
    CallOK Try.prog 190 #[v, .func (.func 191) #[] #[]] h (.bool (!decide (∀ k, k < L.length → jobOK (jobAt L k) = true))) h := by
  refine callY_P 9 _ [.tmp 4] Try.func190 rfl rfl rfl (by first | rfl | simp) ?_
  obtain ⟨r, hc, hr⟩ := indexJobs_ok h v L hv
  try simp (disch := first | omega | (simp; done) | fail) [wrap64c, if_pos, if_neg, opAnd, opOr, opXor, opDiff, opShr, opBit]
  refine callG_c (by simp) (by simp) ?ha (hc) ?_
  (case ha => simp (disch := first | omega | (simp; done) | fail) [wrap64c, if_pos, if_neg, opAnd, opOr, opXor, opDiff, opShr, opBit])
  have e : decide (0 ≤ r) = !decide (∀ k, k < L.length → jobOK (jobAt L k) = true) := by
    rw [Bool.eq_iff_iff]; simp only [decide_eq_true_eq, Bool.not_eq_true', decide_eq_false_iff_not]; exact hr
  try simp (disch := first | omega | (simp; done) | fail) [wrap64c, if_pos, if_neg, opAnd, opOr, opXor, opDiff, opShr, opBit, e]
  exact done_ret rfl (by simp)
theorem areTasks_ok (h : Hp) (v : Value) (L : List Job) (N : Int) (hv : Jobs h v L) : CallOK Try.prog 89 #[v, .int .i64 N] h (.bool (jobsB L N)) h := by
  refine callY_P 18 _ [.tmp 4] Try.func89 rfl rfl rfl (by first | rfl | simp) ?_
  have hL := hv.lenD
  try simp (disch := first | omega | (simp; done) | fail) [wrap64c, if_pos, if_neg, opAnd, opOr, opXor, opDiff, opShr, opBit, hL]
  refine callG_c (by simp) (by simp) ?ha (isSize_ok h N) ?_
  (case ha => simp (disch := first | omega | (simp; done) | fail) [wrap64c, if_pos, if_neg, opAnd, opOr, opXor, opDiff, opShr, opBit, hL])
  cases c1 : sizeB N
  · have e : jobsB L N = false := jobsB_no fun h1 _ _ => by rw [c1] at h1; cases h1
    try simp (disch := first | omega | (simp; done) | fail) [wrap64c, if_pos, if_neg, opAnd, opOr, opXor, opDiff, opShr, opBit, hL, c1]
    exact done_ret rfl (by simp [e])
  · by_cases c2 : (L.length : Int) = N
    · have d2 : ((L.length : Int) == N) = true := by simp [c2]
      try simp (disch := first | omega | (simp; done) | fail) [wrap64c, if_pos, if_neg, opAnd, opOr, opXor, opDiff, opShr, opBit, hL, c1, d2]
      refine callG_c (by simp) (by simp) ?ha (containsJobs_ok h v L hv) ?_
      (case ha => simp (disch := first | omega | (simp; done) | fail) [wrap64c, if_pos, if_neg, opAnd, opOr, opXor, opDiff, opShr, opBit, hL, c1, d2])
      have e : jobsB L N = decide (∀ k, k < L.length → jobOK (jobAt L k) = true) := by simp [jobsB, c1, c2]
      try simp (disch := first | omega | (simp; done) | fail) [wrap64c, if_pos, if_neg, opAnd, opOr, opXor, opDiff, opShr, opBit, hL, c1, d2]
      exact done_ret rfl (by simp [e])
    · have d2 : ((L.length : Int) == N) = false := by simp [c2]
      have e : jobsB L N = false := jobsB_no fun _ h1 _ => c2 h1
      try simp (disch := first | omega | (simp; done) | fail) [wrap64c, if_pos, if_neg, opAnd, opOr, opXor, opDiff, opShr, opBit, hL, c1, d2]
      exact done_ret rfl (by simp [e])
end Go.Proofs.Ytnncipcldbopgaa
namespace Go.Proofs.Ytnncipcldbopgaa
set_option linter.unusedSimpArgs false
set_option linter.unusedVariables false
set_option maxHeartbeats 4000000
open Go Go.Eng
attribute [local irreducible] WD RunD PreD Runs CallOK
def jobR (F : Nat → Prop) (h : Hp) (u : List Value) (j : Job) : Prop := u = jobL j
theorem jobR_steady : Steady jobR where
  mono F G h h' u x hx _ _ := hx
  low F h u x hx := hx
theorem chunk3_at {cs : List Value} {k : Nat} {a b c : Value} (h : chunk 3 cs k = [a, b, c]) : cs[k * 3]? = some a ∧ cs[k * 3 + 1]? = some b ∧ cs[k * 3 + 2]? = some c := by
  have h0 : ((cs.drop (k * 3)).take 3)[0]? = some a := by rw [show (cs.drop (k * 3)).take 3 = _ from h]; rfl
  have h1 : ((cs.drop (k * 3)).take 3)[1]? = some b := by rw [show (cs.drop (k * 3)).take 3 = _ from h]; rfl
  have h2 : ((cs.drop (k * 3)).take 3)[2]? = some c := by rw [show (cs.drop (k * 3)).take 3 = _ from h]; rfl
  simp only [List.getElem?_take, List.getElem?_drop] at h0 h1 h2
  exact ⟨by simpa using h0, by simpa using h1, by simpa using h2⟩
theorem jobs_of {n : Nat} {h : Hp} {v : Value} {L : List Job} (hs : GL 3 jobR n h v L) (hl : L.length < 2 ^ 63) : Jobs h v L := by
  rcases hs with ⟨rfl, rfl⟩ | ⟨o, ex, cs, rfl, h1, h2, h3, h4, h5⟩
  · exact Jobs.nil h
  · refine ⟨_, _, rfl, Nat.le_refl _, hl, .inr ⟨o, 0, cs, true, ex, 3, rfl, h2, h3, by omega, fun k hk => ?_⟩⟩
    have := chunk3_at (show chunk 3 cs k = [_, _, _] from h5 k hk)
    rw [Nat.zero_add, Nat.mul_comm]
    exact this
theorem appJ {n : Nat} {h0 h : Hp} {v : Value} {L : List Job} (hs : GL 3 jobR n h v L) (j : Job) (hl : L.length < 2 ^ 39) (hn : n ≤ h.next) (hA : Adds h0 h) (h0n : h0.next ≤ n) :
    ∃ v' h', appendD Try.prog 60 60 v (.slice (some ⟨h.next, 0, none⟩) 1 1) (h.alloc (.cells [.int .i64 j.ti, .int .i64 j.ra, .int .i64 j.ba] true true 3)) = some (v', h') ∧ GL 3 jobR n h' v' (L ++ [j]) ∧ Adds h0 h' ∧ h.next < h'.next ∧ ∀ o, o < h.next → o < n → h'.get o = h.get o := by
  have k2 : Adds h (h.alloc (.cells [.int .i64 j.ti, .int .i64 j.ra, .int .i64 j.ba] true true 3)) := (by first | exact aK | exact kK)
  obtain ⟨v', h', g1, g2, g3, g4, g5⟩ := GL.append (P := Try.prog) (t := 60) (t' := 60) (z := .agg #[.int .i64 0, .int .i64 0, .int .i64 0]) (b := 24) (e := 89) (K := [j]) (ys := [.int .i64 j.ti, .int .i64 j.ra, .int .i64 j.ba]) (F := fun x => False) (y := .slice (some ⟨h.next, 0, none⟩) 1 1) (h0 := h0) jobR_steady
    (hs.keep jobR_steady k2.1) (by simp [srcV, srcW]) rfl (fun k hk => by
      have : k = 0 := by simp at hk; exact hk
      subst this; rfl) (fun x hx => hx.elim) (by simp) (by simp) (by simp) rfl (by simp) (by decide) (by decide) (by simp) (by simp; omega) (by simp; omega) (hA.trans k2) h0n
  exact ⟨v', h', g1, g2, g3, Nat.lt_of_lt_of_le (by simp) g4, fun o ho hon => by rw [g5 o (by simp; omega) hon]; simp [Nat.ne_of_lt ho]⟩
theorem zarr3_3 (a b c : Value) : zarr #[a, b, c] 3 = #[a, b, c] := by
  unfold zarr
  apply Array.ext
  · simp
  · intro i h1 h2
    have : i = 0 ∨ i = 1 ∨ i = 2 := by simp at h2; omega
    rcases this with rfl | rfl | rfl <;> simp
end Go.Proofs.Ytnncipcldbopgaa
namespace Go.Proofs.Ytnncipcldbopgaa
set_option linter.unusedSimpArgs false
set_option linter.unusedVariables false
set_option maxHeartbeats 4000000
open Go Go.Eng
attribute [local irreducible] WD RunD PreD Runs CallOK
end Go.Proofs.Ytnncipcldbopgaa
namespace Go.Proofs.Ytnncipcldbopgaa
set_option linter.unusedSimpArgs false
set_option linter.unusedVariables false
set_option maxHeartbeats 4000000
open Go Go.Eng
attribute [local irreducible] WD RunD PreD Runs CallOK
theorem appI2 {n : Nat} {h0 h : Hp} {v : Value} {xs : List Int} (hs : IntsA n h v xs) (x : Int) (hl : xs.length < 2 ^ 40) (hn : n ≤ h.next) (hA : Adds h0 h) (h0n : h0.next ≤ n) :
    ∃ v' h', appendD Try.prog 24 24 v (.slice (some ⟨h.next, 0, none⟩) 1 1) (h.alloc (.cells [.int .i64 x] true true 1)) = some (v', h') ∧ IntsA n h' v' (xs ++ [x]) ∧ Adds h0 h' ∧ h.next < h'.next ∧
      (∀ F : Nat → Prop, (∀ o, F o → o < h.next) → OffF F v → Same F h h' ∧ OffF F v') := by
  obtain ⟨v', h', g1, g2, g3, g4, g5, g6⟩ := append_one2 (P := Try.prog) (t := 24) (t' := 24) (x := x) (q := h.next) (h := h.alloc (.cells [.int .i64 x] true true 1)) (qx := true) (n := n) (v := v) (xs := xs) (by
    rcases hs with ⟨a, b⟩ | ⟨o, ex, a, b, c, d⟩
    · exact .inl ⟨a, b⟩
    · exact .inr ⟨o, ex, a, b, Nat.lt_succ_of_lt c, by simp [Nat.ne_of_lt c, d]⟩) ty_elT_24 ty_szT_3 ty_zeroT_3 ty_byT_3 (by decide) (by decide) (by simp) (by simp) hl (by simp; omega) (show Adds h0 _ from (by first | exact aK | exact kK)) h0n
  refine ⟨v', h', g1, g2, g3, Nat.lt_of_le_of_lt (by simp) g4, fun F hF hO => ⟨?_, g6 F fun o ho => Nat.lt_succ_of_lt (hF o ho)⟩⟩
  have := g5 F hO
  exact ⟨Nat.le_trans (Nat.le_succ _) this.1, fun o ho ho' => by rw [this.2 o ho (Nat.lt_succ_of_lt ho')]; simp [Nat.ne_of_lt ho']⟩
noncomputable def walkR (N : Int) (X ch : List Int) : List Int := if (spB N X && chB ch 20) = true then toN (walkS (fam (natsOf X)) N.toNat ch N.toNat).1 else []
theorem itemsK_eq {o n : Nat} (ho : o < bit n) (hn : n ≤ 7) : itemsK o n = itemsN o := by
  have : ∀ d, n + d ≤ 7 → itemsK o (n + d) = itemsK o n := by
    intro d
    induction d with
    | zero => intro _; rfl
    | succ d ih =>
      intro hd
      rw [show n + (d + 1) = n + d + 1 by omega, itemsK_succ, hi_bit ho (by omega)]
      exact ih (by omega)
  rw [items_eq]
  have h1 := this (7 - n) (by omega)
  rw [show n + (7 - n) = 7 by omega] at h1
  exact h1.symm
end Go.Proofs.Ytnncipcldbopgaa
namespace Go.Proofs.Ytnncipcldbopgaa
set_option linter.unusedSimpArgs false
set_option linter.unusedVariables false
set_option maxHeartbeats 4000000
open Go Go.Eng
attribute [local irreducible] WD RunD PreD Runs CallOK
theorem drawEnds_ok (h : Hp) (v : Value) (bs : List Int) (hb : BytesF h.next h v bs) : ∃ u h', CallOK Try.prog 211 #[v] h u h' ∧ Adds h h' ∧ ∃ n : Int, ∃ p L, u = .tuple #[.int .i64 n, p] ∧ IRowsF (fun x => h.next ≤ x) h' p L ∧ L.length ≤ 10 := by
  have ntv := hb.bytes.nt
  have csv := hb.bytes.cs
  refine callY_L (args := [v]) 66 _ [.tmp 2, .tmp 3] Try.func211 rfl rfl rfl ?_
  try simp (disch := first | omega | (simp; done) | fail) [wrap64c, if_pos, if_neg, opAnd, opOr, opXor, opDiff, opShr, opBit, ntv, csv]
  first | refine WY_heap fun h0 q_h0 => ?_ | refine callG_heap fun h0 q_h0 => ?_ | refine callP_heap fun h0 q_h0 => ?_ | refine callS_heap fun h0 q_h0 => ?_ | refine RY_heap fun h0 q_h0 => ?_ | refine PY_heap fun h0 q_h0 => ?_ | refine SY_heap fun h0 q_h0 => ?_ | refine doneY_heap fun h0 q_h0 => ?_ | refine loopK_heap fun h0 q_h0 => ?_ | refine thenY_heap fun h0 q_h0 => ?_ | refine thenM_heap fun h0 q_h0 => ?_
  have k0 : Adds h h0 := by rw [q_h0]; exact (by first | exact aK | exact kK)
  have n0 : h0.next = h.next + 1 := by simp [q_h0]
  have g0 : h0.get h.next = .cells [v, .int .i64 0, .int .u64 0] true true 1 := by simp [q_h0]
  have c0 := cur_mk hb k0.1 ⟨by omega, by omega⟩ g0
  obtain ⟨_, h1, p1, r1, rfl, l1, w1⟩ := pick_ok h.next h.next 0 h0 6 c0 (by decide)
  have hr1 := l1 (by omega)
  have d1 := w1.dr k0 c0
  have n1 := w1.nx
  obtain ⟨n, hn⟩ : ∃ n : Nat, n = r1 + 1 := ⟨_, rfl⟩
  have hnI : 1 + (r1 : Int) = (n : Int) := by omega
  obtain ⟨_, h2, p2, r2, rfl, l2, w2⟩ := pick_ok h.next h.next 2 h1 ((n : Int) + 2) d1.cur (by decide)
  have hr2 := l2 (by omega)
  have d2 := d1.trans (w2.dr d1.add d1.cur)
  have n2 := w2.nx
  have d2r := DrW.refl d2.add d2.cur
  refine callG_c (by simp) (by simp) ?ha (p1) ?_
  (case ha => simp (disch := first | omega | (simp; done) | fail) [wrap64c, if_pos, if_neg, opAnd, opOr, opXor, opDiff, opShr, opBit, ntv, csv, hnI])
  try simp (disch := first | omega | (simp; done) | fail) [wrap64c, if_pos, if_neg, opAnd, opOr, opXor, opDiff, opShr, opBit, ntv, csv, hnI]
  refine callG_c (by simp) (by simp) ?ha (p2) ?_
  (case ha => simp (disch := first | omega | (simp; done) | fail) [wrap64c, if_pos, if_neg, opAnd, opOr, opXor, opDiff, opShr, opBit, ntv, csv, hnI])
  try simp (disch := first | omega | (simp; done) | fail) [wrap64c, if_pos, if_neg, opAnd, opOr, opXor, opDiff, opShr, opBit, ntv, csv, hnI]
  refine WD_loopC [4, 5] (fun m tm h' => ∃ y j L, m = r2 - j ∧ tm 6 = y ∧ tm 7 = .int .i64 ((r2 : Int) - ((j : Nat) : Int)) ∧ (j ≤ r2 ∧ L.length = j) ∧ (DrW h h.next (4 + 4 * j) h2 h') ∧ (IRowsA h2.next h' y L)) _ ⟨Value.slice none 0 0, 0, [], rfl, (by simp (disch := first | omega | (simp; done) | fail) [wrap64c, if_pos, if_neg, opAnd, opOr, opXor, opDiff, opShr, opBit, ntv, csv, hnI]), (by simp), (by simp), (by simpa using d2r), (.nil _ _)⟩ ?_
  rintro m tm h' hFr ⟨y, j, L, rfl, e6, e7, hj, hd, hi⟩
  simp only [FrameL] at hFr
  obtain ⟨f4_0, f5_0, -⟩ := hFr
  try simp (disch := first | omega | (simp; done) | fail) [wrap64c, if_pos, if_neg, opAnd, opOr, opXor, opDiff, opShr, opBit, ntv, csv, hnI] at f4_0 f5_0
  have e4 := f4_0
  have e5 := f5_0
  rename Hp => hq
  have nty := hi.nt
  have nq := hd.nx
  by_cases hlq : j < r2 ∧ 1 < n
  · have hlq1 : 0 < (r2 : Int) - ((j : Nat) : Int) := by omega
    have hlq2 : 1 < (n : Int) := by omega
    obtain ⟨_, h4, p4, r4, rfl, l4, w4⟩ := pick_ok h.next h.next (4 + 4 * j) hq ((n : Int) - 1) hd.cur (by omega)
    have hr4 := l4 (by omega)
    have d4 := hd.trans (w4.dr hd.add hd.cur)
    have n4 := w4.nx
    obtain ⟨_, h5, p5, r5, rfl, l5, w5⟩ := pick_ok h.next h.next (4 + 4 * j + 2) h4 ((n : Int) - 1 - r4) d4.cur (by omega)
    have hr5 := l5 (by omega)
    have d5 := d4.trans (w5.dr d4.add d4.cur)
    have n5 := w5.nx
    have hi5 : IRowsA h2.next h5 y L := rows_cur hi (by omega) (fun p h1 h2 => by rw [w5.get p (by omega) (by omega), w4.get p (by omega) (by omega)])
    obtain ⟨sq, hsq⟩ : ∃ s : Nat, s = r4 + 1 + r5 := ⟨_, rfl⟩
    have hsqe : (r4 : Int) + 1 + (r5 : Int) = (sq : Int) := by omega
    obtain ⟨v6, h6, hap, hi6, k6, n6, s6⟩ := appPair hi5 (r4 : Int) (sq : Int) (by omega) (by omega) d5.add (by omega)
    try simp (disch := first | omega | (simp; done) | fail) [wrap64c, if_pos, if_neg, opAnd, opOr, opXor, opDiff, opShr, opBit, ntv, csv, hnI, e4, e5, e6, e7, nty, hlq1, hlq2, hsqe]
    refine callG_c (by simp) (by simp) ?ha (p4) ?_
    (case ha => simp (disch := first | omega | (simp; done) | fail) [wrap64c, if_pos, if_neg, opAnd, opOr, opXor, opDiff, opShr, opBit, ntv, csv, hnI, e4, e5, e6, e7, nty, hlq1, hlq2, hsqe])
    try simp (disch := first | omega | (simp; done) | fail) [wrap64c, if_pos, if_neg, opAnd, opOr, opXor, opDiff, opShr, opBit, ntv, csv, hnI, e4, e5, e6, e7, nty, hlq1, hlq2, hsqe]
    refine callG_c (by simp) (by simp) ?ha (p5) ?_
    (case ha => simp (disch := first | omega | (simp; done) | fail) [wrap64c, if_pos, if_neg, opAnd, opOr, opXor, opDiff, opShr, opBit, ntv, csv, hnI, e4, e5, e6, e7, nty, hlq1, hlq2, hsqe])
    try simp (disch := first | omega | (simp; done) | fail) [wrap64c, if_pos, if_neg, opAnd, opOr, opXor, opDiff, opShr, opBit, ntv, csv, hnI, e4, e5, e6, e7, nty, hlq1, hlq2, hsqe, hap]
    refine loopK_next _ ?hm ?hf ⟨v6, j + 1, L ++ [[(r4 : Int), (sq : Int)]], rfl, (by simp (disch := first | omega | (simp; done) | fail) [wrap64c, if_pos, if_neg, opAnd, opOr, opXor, opDiff, opShr, opBit, ntv, csv, hnI, e4, e5, e6, e7, nty, hlq1, hlq2, hsqe] <;> omega), (by simp; omega), (by simp; omega), ((d5.app d2.add (by omega) k6 (by omega) (fun p h1 h2 => s6 p h1 (by omega))).mono (by omega)), hi6⟩
    (case hm => first | omega | (simp; omega))
    (case hf => simp [FrameL, ntv, csv, hnI, e4, e5, e6, e7, nty, hlq1, hlq2, hsqe, f4_0, f5_0])
  · have hcnd : (decide (0 < (r2 : Int) - ((j : Nat) : Int)) = false) ∨ (decide (1 < (n : Int)) = false) := by
      rcases Decidable.em (j < r2) with h | h
      · exact .inr (decide_eq_false (by omega))
      · exact .inl (decide_eq_false (by omega))
    obtain ⟨_, h4, p4, r4, rfl, l4, w4⟩ := pick_ok h.next h.next (4 + 4 * j) hq 14 hd.cur (by omega)
    have hr4 := l4 (by omega)
    have d4 := hd.trans (w4.dr hd.add hd.cur)
    have n4 := w4.nx
    have hi4 : IRowsA h2.next h4 y L := rows_cur hi (by omega) (fun p h1 h2 => w4.get p (by omega) (by omega))
    have csy := ((hi.own (by omega)).rows).cs
    by_cases hA1 : 0 < (r2 : Int) - ((j : Nat) : Int)
    · have hA2 : ¬ 1 < (n : Int) := by omega
      try simp (disch := first | omega | (simp; done) | fail) [wrap64c, if_pos, if_neg, opAnd, opOr, opXor, opDiff, opShr, opBit, ntv, csv, hnI, e4, e5, e6, e7, nty, csy, hA1, hA2]
      refine callG_c (by simp) (by simp) ?ha (p4) ?_
      (case ha => simp (disch := first | omega | (simp; done) | fail) [wrap64c, if_pos, if_neg, opAnd, opOr, opXor, opDiff, opShr, opBit, ntv, csv, hnI, e4, e5, e6, e7, nty, csy, hA1, hA2])
      try simp (disch := first | omega | (simp; done) | fail) [wrap64c, if_pos, if_neg, opAnd, opOr, opXor, opDiff, opShr, opBit, ntv, csv, hnI, e4, e5, e6, e7, nty, csy, hA1, hA2]
      by_cases z0 : r4 = 0
      · have z0' : ((r4 : Int) == 0) = true := by simp [z0]
        obtain ⟨_, h5, p5, r5, rfl, l5, w5⟩ := pick_ok h.next h.next (4 + 4 * j + 2) h4 9 d4.cur (by omega)
        have d5 := d4.trans (w5.dr d4.add d4.cur)
        have n5 := w5.nx
        obtain ⟨_, h6, p6, r6, rfl, l6, w6⟩ := pick_ok h.next h.next (4 + 4 * j + 4) h5 9 d5.cur (by omega)
        have d6 := d5.trans (w6.dr d5.add d5.cur)
        have n6 := w6.nx
        have hr5 := l5 (by omega)
        have hr6 := l6 (by omega)
        have hi6 : IRowsA h2.next h6 y L := rows_cur hi4 (by omega) (fun p h1 h2 => by rw [w6.get p (by omega) (by omega), w5.get p (by omega) (by omega)])
        obtain ⟨v7, h7, hap, hi7, k7, n7, s7⟩ := appPair hi6 ((r5 : Int) - 1) ((r6 : Int) - 1) (by omega) (by omega) d6.add (by omega)
        have nt7 := hi7.nt
        have cs7 := ((hi7.own (by simp; omega)).rows).cs
        try simp (disch := first | omega | (simp; done) | fail) [wrap64c, if_pos, if_neg, opAnd, opOr, opXor, opDiff, opShr, opBit, ntv, csv, hnI, e4, e5, e6, e7, nty, csy, hA1, hA2, z0', nt7, cs7]
        refine callG_c (by simp) (by simp) ?ha (p5) ?_
        (case ha => simp (disch := first | omega | (simp; done) | fail) [wrap64c, if_pos, if_neg, opAnd, opOr, opXor, opDiff, opShr, opBit, ntv, csv, hnI, e4, e5, e6, e7, nty, csy, hA1, hA2, z0', nt7, cs7])
        try simp (disch := first | omega | (simp; done) | fail) [wrap64c, if_pos, if_neg, opAnd, opOr, opXor, opDiff, opShr, opBit, ntv, csv, hnI, e4, e5, e6, e7, nty, csy, hA1, hA2, z0', nt7, cs7]
        refine callG_c (by simp) (by simp) ?ha (p6) ?_
        (case ha => simp (disch := first | omega | (simp; done) | fail) [wrap64c, if_pos, if_neg, opAnd, opOr, opXor, opDiff, opShr, opBit, ntv, csv, hnI, e4, e5, e6, e7, nty, csy, hA1, hA2, z0', nt7, cs7])
        try simp (disch := first | omega | (simp; done) | fail) [wrap64c, if_pos, if_neg, opAnd, opOr, opXor, opDiff, opShr, opBit, ntv, csv, hnI, e4, e5, e6, e7, nty, csy, hA1, hA2, z0', nt7, cs7, hap]
        exact done_ret (vs := [.int .i64 (n : Int), v7]) (by simp [resL]) ⟨k7, _, _, _, rfl, (hi7.own (by simp; omega)).read.sub fun x hx => by have := hx.1; omega, by simp; omega⟩
      · have z0' : ((r4 : Int) == 0) = false := beq_false_of_ne (by omega)
        by_cases z1 : r4 = 1
        · have z1' : ((r4 : Int) == 1) = true := by simp [z1]
          obtain ⟨hl6, hl6E⟩ : ∃ hz, hz = h4.alloc (.cells [.int .i64 0, .int .i64 7, .int .i64 8] true true 1) := ⟨_, rfl⟩
          have k6 : Adds h4 hl6 := by rw [hl6E]; exact (by first | exact aK | exact kK)
          have n6 : hl6.next = h4.next + 1 := by rw [hl6E]; rfl
          have d6 := d4.trans (DrW.of_adds d4.add d4.cur k6)
          have i6 : IntsF (fun x => x ≠ h.next) hl6 (.slice (some ⟨h4.next, 0, none⟩) 3 3) [0, 7, 8] := lit_ints (xs := [0, 7, 8]) (own := true) (ex := true) (es := 1) (by simp [hl6E]) (by omega) (by omega) (by simp)
          obtain ⟨v8, h8, p8, r8, q8, e8_, w8⟩ := among_ok h.next h.next (4 + 4 * j + 2) hl6 _ _ d6.cur (by omega) i6 (by simp)
          subst e8_
          generalize hx8 : [(0 : Int), 7, 8][r8] = x8 at p8
          have d8 := d6.trans (w8.dr d6.add d6.cur)
          have n8 := w8.nx
          have hi8 : IRowsA h2.next h8 y L := rows_cur (hi4.keep k6.1) (by omega) (fun p h1 h2 => w8.get p (by omega) (by omega))
          try simp (disch := first | omega | (simp; done) | fail) [wrap64c, if_pos, if_neg, opAnd, opOr, opXor, opDiff, opShr, opBit, ntv, csv, hnI, e4, e5, e6, e7, nty, csy, hA1, hA2, z0', z1']
          rw [← hl6E]
          refine callG_c (by simp) (by simp) ?ha (p8) ?_
          (case ha => simp (disch := first | omega | (simp; done) | fail) [wrap64c, if_pos, if_neg, opAnd, opOr, opXor, opDiff, opShr, opBit, ntv, csv, hnI, e4, e5, e6, e7, nty, csy, hA1, hA2, z0', z1'])
          try simp (disch := first | omega | (simp; done) | fail) [wrap64c, if_pos, if_neg, opAnd, opOr, opXor, opDiff, opShr, opBit, ntv, csv, hnI, e4, e5, e6, e7, nty, csy, hA1, hA2, z0', z1']
          exact done_ret (vs := [.int .i64 x8, y]) (by simp [resL]) ⟨d8.add, _, _, _, rfl, (hi8.own (by omega)).read.sub fun x hx => by have := hx.1; omega, by omega⟩
        · have z1' : ((r4 : Int) == 1) = false := beq_false_of_ne (by omega)
          try simp (disch := first | omega | (simp; done) | fail) [wrap64c, if_pos, if_neg, opAnd, opOr, opXor, opDiff, opShr, opBit, ntv, csv, hnI, e4, e5, e6, e7, nty, csy, hA1, hA2, z0', z1']
          exact done_ret (vs := [.int .i64 (n : Int), y]) (by simp [resL]) ⟨d4.add, _, _, _, rfl, (hi4.own (by omega)).read.sub fun x hx => by have := hx.1; omega, by omega⟩
    · try simp (disch := first | omega | (simp; done) | fail) [wrap64c, if_pos, if_neg, opAnd, opOr, opXor, opDiff, opShr, opBit, ntv, csv, hnI, e4, e5, e6, e7, nty, csy, hA1]
      refine callG_c (by simp) (by simp) ?ha (p4) ?_
      (case ha => simp (disch := first | omega | (simp; done) | fail) [wrap64c, if_pos, if_neg, opAnd, opOr, opXor, opDiff, opShr, opBit, ntv, csv, hnI, e4, e5, e6, e7, nty, csy, hA1])
      try simp (disch := first | omega | (simp; done) | fail) [wrap64c, if_pos, if_neg, opAnd, opOr, opXor, opDiff, opShr, opBit, ntv, csv, hnI, e4, e5, e6, e7, nty, csy, hA1]
      by_cases z0 : r4 = 0
      · have z0' : ((r4 : Int) == 0) = true := by simp [z0]
        obtain ⟨_, h5, p5, r5, rfl, l5, w5⟩ := pick_ok h.next h.next (4 + 4 * j + 2) h4 9 d4.cur (by omega)
        have d5 := d4.trans (w5.dr d4.add d4.cur)
        have n5 := w5.nx
        obtain ⟨_, h6, p6, r6, rfl, l6, w6⟩ := pick_ok h.next h.next (4 + 4 * j + 4) h5 9 d5.cur (by omega)
        have d6 := d5.trans (w6.dr d5.add d5.cur)
        have n6 := w6.nx
        have hr5 := l5 (by omega)
        have hr6 := l6 (by omega)
        have hi6 : IRowsA h2.next h6 y L := rows_cur hi4 (by omega) (fun p h1 h2 => by rw [w6.get p (by omega) (by omega), w5.get p (by omega) (by omega)])
        obtain ⟨v7, h7, hap, hi7, k7, n7, s7⟩ := appPair hi6 ((r5 : Int) - 1) ((r6 : Int) - 1) (by omega) (by omega) d6.add (by omega)
        have nt7 := hi7.nt
        have cs7 := ((hi7.own (by simp; omega)).rows).cs
        try simp (disch := first | omega | (simp; done) | fail) [wrap64c, if_pos, if_neg, opAnd, opOr, opXor, opDiff, opShr, opBit, ntv, csv, hnI, e4, e5, e6, e7, nty, csy, hA1, z0', nt7, cs7]
        refine callG_c (by simp) (by simp) ?ha (p5) ?_
        (case ha => simp (disch := first | omega | (simp; done) | fail) [wrap64c, if_pos, if_neg, opAnd, opOr, opXor, opDiff, opShr, opBit, ntv, csv, hnI, e4, e5, e6, e7, nty, csy, hA1, z0', nt7, cs7])
        try simp (disch := first | omega | (simp; done) | fail) [wrap64c, if_pos, if_neg, opAnd, opOr, opXor, opDiff, opShr, opBit, ntv, csv, hnI, e4, e5, e6, e7, nty, csy, hA1, z0', nt7, cs7]
        refine callG_c (by simp) (by simp) ?ha (p6) ?_
        (case ha => simp (disch := first | omega | (simp; done) | fail) [wrap64c, if_pos, if_neg, opAnd, opOr, opXor, opDiff, opShr, opBit, ntv, csv, hnI, e4, e5, e6, e7, nty, csy, hA1, z0', nt7, cs7])
        try simp (disch := first | omega | (simp; done) | fail) [wrap64c, if_pos, if_neg, opAnd, opOr, opXor, opDiff, opShr, opBit, ntv, csv, hnI, e4, e5, e6, e7, nty, csy, hA1, z0', nt7, cs7, hap]
        exact done_ret (vs := [.int .i64 (n : Int), v7]) (by simp [resL]) ⟨k7, _, _, _, rfl, (hi7.own (by simp; omega)).read.sub fun x hx => by have := hx.1; omega, by simp; omega⟩
      · have z0' : ((r4 : Int) == 0) = false := beq_false_of_ne (by omega)
        by_cases z1 : r4 = 1
        · have z1' : ((r4 : Int) == 1) = true := by simp [z1]
          obtain ⟨hl6, hl6E⟩ : ∃ hz, hz = h4.alloc (.cells [.int .i64 0, .int .i64 7, .int .i64 8] true true 1) := ⟨_, rfl⟩
          have k6 : Adds h4 hl6 := by rw [hl6E]; exact (by first | exact aK | exact kK)
          have n6 : hl6.next = h4.next + 1 := by rw [hl6E]; rfl
          have d6 := d4.trans (DrW.of_adds d4.add d4.cur k6)
          have i6 : IntsF (fun x => x ≠ h.next) hl6 (.slice (some ⟨h4.next, 0, none⟩) 3 3) [0, 7, 8] := lit_ints (xs := [0, 7, 8]) (own := true) (ex := true) (es := 1) (by simp [hl6E]) (by omega) (by omega) (by simp)
          obtain ⟨v8, h8, p8, r8, q8, e8_, w8⟩ := among_ok h.next h.next (4 + 4 * j + 2) hl6 _ _ d6.cur (by omega) i6 (by simp)
          subst e8_
          generalize hx8 : [(0 : Int), 7, 8][r8] = x8 at p8
          have d8 := d6.trans (w8.dr d6.add d6.cur)
          have n8 := w8.nx
          have hi8 : IRowsA h2.next h8 y L := rows_cur (hi4.keep k6.1) (by omega) (fun p h1 h2 => w8.get p (by omega) (by omega))
          try simp (disch := first | omega | (simp; done) | fail) [wrap64c, if_pos, if_neg, opAnd, opOr, opXor, opDiff, opShr, opBit, ntv, csv, hnI, e4, e5, e6, e7, nty, csy, hA1, z0', z1']
          rw [← hl6E]
          refine callG_c (by simp) (by simp) ?ha (p8) ?_
          (case ha => simp (disch := first | omega | (simp; done) | fail) [wrap64c, if_pos, if_neg, opAnd, opOr, opXor, opDiff, opShr, opBit, ntv, csv, hnI, e4, e5, e6, e7, nty, csy, hA1, z0', z1'])
          try simp (disch := first | omega | (simp; done) | fail) [wrap64c, if_pos, if_neg, opAnd, opOr, opXor, opDiff, opShr, opBit, ntv, csv, hnI, e4, e5, e6, e7, nty, csy, hA1, z0', z1']
          exact done_ret (vs := [.int .i64 x8, y]) (by simp [resL]) ⟨d8.add, _, _, _, rfl, (hi8.own (by omega)).read.sub fun x hx => by have := hx.1; omega, by omega⟩
        · have z1' : ((r4 : Int) == 1) = false := beq_false_of_ne (by omega)
          try simp (disch := first | omega | (simp; done) | fail) [wrap64c, if_pos, if_neg, opAnd, opOr, opXor, opDiff, opShr, opBit, ntv, csv, hnI, e4, e5, e6, e7, nty, csy, hA1, z0', z1']
          exact done_ret (vs := [.int .i64 (n : Int), y]) (by simp [resL]) ⟨d4.add, _, _, _, rfl, (hi4.own (by omega)).read.sub fun x hx => by have := hx.1; omega, by omega⟩
def Apt (t u : Value) : Prop := ∀ o i n c j m d, t = .slice (some ⟨o, i, none⟩) n c → u = .slice (some ⟨o, j, none⟩) m d → False
theorem Apt.symm {t u : Value} (h : Apt t u) : Apt u t := fun o i n c j m d e1 e2 => h o j m d i n c e2 e1
theorem appT {n : Nat} {h0 h : Hp} {v w : Value} {xs ys : List Int} (hs : IntsA n h v xs) (hw : IntsA n h w ys) (ap : Apt v w) (x : Int) (hl : xs.length < 2 ^ 40) (hn : n ≤ h.next) (hA : Adds h0 h) (h0n : h0.next ≤ n) :
    ∃ v' h', appendD Try.prog 24 24 v (.slice (some ⟨h.next, 0, none⟩) 1 1) (h.alloc (.cells [.int .i64 x] true true 1)) = some (v', h') ∧ IntsA n h' v' (xs ++ [x]) ∧ IntsA n h' w ys ∧ Apt v' w ∧ Adds h0 h' ∧ h.next < h'.next ∧ ∀ o, o < h.next → o < n → h'.get o = h.get o := by
  obtain ⟨v', h', g1, g2, g3, g4, g5⟩ := appI2 hs x hl hn hA h0n
  obtain ⟨s1, s2⟩ := g5 (fun o => o < h.next ∧ ∃ j m d, w = .slice (some ⟨o, j, none⟩) m d) (fun o ho => ho.1) (fun o i n' c e hf => by obtain ⟨_, j, m, d, e2⟩ := hf; exact ap o i n' c j m d e e2)
  obtain ⟨s3, _⟩ := g5 (fun o => o < n) (fun o ho => by omega) (fun o i n' c e hf => by
    rcases hs with ⟨_, rfl⟩ | ⟨o', ex, rfl, q1, q2, q3⟩
    · cases e
    · cases e; omega)
  refine ⟨v', h', g1, g2, ?_, ?_, g3, g4, fun o ho hon => s3.2 o hon ho⟩
  · rcases hw with ⟨rfl, rfl⟩ | ⟨o, ex, rfl, q1, q2, q3⟩
    · exact .nil _ _
    · exact .inr ⟨o, ex, rfl, q1, by have := s1.1; omega, by rw [s1.2 o ⟨q2, _, _, _, rfl⟩ q2]; exact q3⟩
  · intro o i n' c j m d e1 e2
    refine s2 o i n' c e1 ⟨?_, j, m, d, e2⟩
    rcases hw with ⟨rfl, rfl⟩ | ⟨o', ex, rfl, q1, q2, q3⟩
    · cases e2
    · cases e2; exact q2
theorem apt_put {n : Nat} {h : Hp} {v w : Value} {ys : List Int} (hw : IntsA n h w ys) (ap : Apt v w) {o i m c : Nat} (e : v = .slice (some ⟨o, i, none⟩) m c) (x : AObj) : IntsA n (h.put o x) w ys := by
  rcases hw with ⟨rfl, rfl⟩ | ⟨o', ex, rfl, q1, q2, q3⟩
  · exact .nil _ _
  · have : o' ≠ o := fun h => ap o i m c _ _ _ e (by rw [← h])
    exact .inr ⟨o', ex, rfl, q1, q2, by simp [this, q3]⟩
theorem drawLate_ok (h : Hp) (v : Value) (bs : List Int) (hb : BytesF h.next h v bs) : ∃ u h', CallOK Try.prog 110 #[v] h u h' ∧ Adds h h' ∧ ∃ n : Int, ∃ p L t T d D, u = .tuple #[.int .i64 n, p, t, d] ∧ IRows h' p L ∧ L.length ≤ 10 ∧ Ints h' t T ∧ T.length ≤ 8 ∧ Ints h' d D ∧ D.length ≤ 8 := by
  have ntv := hb.bytes.nt
  have csv := hb.bytes.cs
  refine callY_L (args := [v]) 53 _ [.tmp 2, .tmp 3, .tmp 4, .tmp 5] Try.func110 rfl rfl rfl ?_
  try simp (disch := first | omega | (simp; done) | fail) [wrap64c, if_pos, if_neg, opAnd, opOr, opXor, opDiff, opShr, opBit, ntv, csv]
  first | refine WY_heap fun h0 q_h0 => ?_ | refine callG_heap fun h0 q_h0 => ?_ | refine callP_heap fun h0 q_h0 => ?_ | refine callS_heap fun h0 q_h0 => ?_ | refine RY_heap fun h0 q_h0 => ?_ | refine PY_heap fun h0 q_h0 => ?_ | refine SY_heap fun h0 q_h0 => ?_ | refine doneY_heap fun h0 q_h0 => ?_ | refine loopK_heap fun h0 q_h0 => ?_ | refine thenY_heap fun h0 q_h0 => ?_ | refine thenM_heap fun h0 q_h0 => ?_
  have k0 : Adds h h0 := by rw [q_h0]; exact (by first | exact aK | exact kK)
  have n0 : h0.next = h.next + 1 := by simp [q_h0]
  have g0 : h0.get h.next = .cells [v, .int .i64 0, .int .u64 0] true true 1 := by simp [q_h0]
  have c0 := cur_mk hb k0.1 ⟨by omega, by omega⟩ g0
  have d0 := DrW.refl k0 c0
  obtain ⟨_, h1, p1, a1, n, y, L, rfl, hy, lL⟩ := drawEnds_ok h0 v bs (bytes_old (hb.bytes.keep k0.1))
  have n1 := a1.1.1
  have d1 := d0.trans (DrW.of_adds k0 c0 a1)
  have d1r := DrW.refl d1.add d1.cur
  have nty := hy.rows.nt
  have csy := hy.rows.cs
  have hyl := hy.low
  have hyK : ∀ hz K, DrW h h.next K h1 hz → IRowsF (fun o => h0.next ≤ o ∧ o < h1.next) hz y L := fun hz K dz => hyl.same (dz.same (fun p hp => by omega))
  obtain ⟨nn, hnn⟩ : ∃ nn : Int, nn = if n < 8 then n else 8 := ⟨_, rfl⟩
  have hnn8 : nn ≤ 8 := by rw [hnn]; split <;> omega
  have pl := fun hh => leastD_ok hh n 8
  rw [← hnn] at pl
  refine callG_c (by simp) (by simp) ?ha (p1) ?_
  (case ha => simp (disch := first | omega | (simp; done) | fail) [wrap64c, if_pos, if_neg, opAnd, opOr, opXor, opDiff, opShr, opBit, ntv, csv, nty, csy])
  try simp (disch := first | omega | (simp; done) | fail) [wrap64c, if_pos, if_neg, opAnd, opOr, opXor, opDiff, opShr, opBit, ntv, csv, nty, csy]
  refine WD_loopC [6, 7, 8] (fun m tm h' => ∃ t T d D i, m = nn.toNat - i ∧ tm 9 = t ∧ tm 10 = d ∧ tm 11 = .int .i64 (i : Int) ∧ (i ≤ nn.toNat) ∧ (IntsA h1.next h' t T) ∧ (IntsA h1.next h' d D) ∧ (Apt t d) ∧ (T.length = i) ∧ (D.length = i) ∧ (DrW h h.next (4 * i) h1 h')) _ ⟨Value.slice none 0 0, [], Value.slice none 0 0, [], 0, rfl, (by simp (disch := first | omega | (simp; done) | fail) [wrap64c, if_pos, if_neg, opAnd, opOr, opXor, opDiff, opShr, opBit, ntv, csv, nty, csy]), (by simp (disch := first | omega | (simp; done) | fail) [wrap64c, if_pos, if_neg, opAnd, opOr, opXor, opDiff, opShr, opBit, ntv, csv, nty, csy]), (by simp (disch := first | omega | (simp; done) | fail) [wrap64c, if_pos, if_neg, opAnd, opOr, opXor, opDiff, opShr, opBit, ntv, csv, nty, csy]), (by first | omega | assumption | (simp (disch := first | omega | (simp; done) | fail) [wrap64c, if_pos, if_neg, opAnd, opOr, opXor, opDiff, opShr, opBit, ntv, csv, nty, csy] <;> omega)), (.nil _ _), (.nil _ _), (fun o i n c j m d e => by cases e), rfl, rfl, (by simpa using d1r)⟩ ?_
  rintro m tm h' hFr ⟨t, T, d, D, i, rfl, e9, e10, e11, hi, ht, hd, ap, lT, lD, hc⟩
  simp only [FrameL] at hFr
  obtain ⟨f6_0, f7_0, f8_0, -⟩ := hFr
  try simp (disch := first | omega | (simp; done) | fail) [wrap64c, if_pos, if_neg, opAnd, opOr, opXor, opDiff, opShr, opBit, ntv, csv, nty, csy] at f6_0 f7_0 f8_0
  have e6 := f6_0
  have e7 := f7_0
  have e8 := f8_0
  rename Hp => hq
  have ntt := ht.nt
  have ntd := hd.nt
  have nq := hc.nx
  by_cases hlt : i < nn.toNat
  · have hlt' : (i : Int) < nn := by omega
    obtain ⟨_, h4, p4, r4, rfl, l4, w4⟩ := pick_ok h.next h.next (4 * i) hq 6 hc.cur (by omega)
    have d4 := hc.trans (w4.dr hc.add hc.cur)
    have n4 := w4.nx
    have hr4 := l4 (by omega)
    have ht4 := ints_cur ht (b := h4) (by omega) (fun p h1 h2 => w4.get p h2 (by omega))
    have hd4 := ints_cur hd (b := h4) (by omega) (fun p h1 h2 => w4.get p h2 (by omega))
    obtain ⟨t5, h5, hap5, ht5, hd5, ap5, k5, n5, s5⟩ := appT ht4 hd4 ap (1 + (r4 : Int)) (by omega) (by omega) d4.add (by omega)
    have d5 := d4.app d1.add (by omega) k5 (Nat.le_of_lt n5) (fun p q1 q2 => s5 p q1 q2)
    obtain ⟨_, h6, p6, r6, rfl, l6, w6⟩ := pick_ok h.next h.next (4 * i + 2) h5 20 d5.cur (by omega)
    have d6 := d5.trans (w6.dr d5.add d5.cur)
    have n6 := w6.nx
    have hr6 := l6 (by omega)
    have ht6 := ints_cur ht5 (b := h6) (by omega) (fun p h1 h2 => w6.get p h2 (by omega))
    have hd6 := ints_cur hd5 (b := h6) (by omega) (fun p h1 h2 => w6.get p h2 (by omega))
    obtain ⟨d7, h7, hap7, hd7, ht7, ap7, k7, n7, s7⟩ := appT hd6 ht6 ap5.symm (r6 : Int) (by omega) (by omega) d6.add (by omega)
    have d7' := d6.app d1.add (by omega) k7 (Nat.le_of_lt n7) (fun p q1 q2 => s7 p q1 q2)
    have ntt5 := ht5.nt
    try simp (disch := first | omega | (simp; done) | fail) [wrap64c, if_pos, if_neg, opAnd, opOr, opXor, opDiff, opShr, opBit, ntv, csv, nty, csy, e6, e7, e8, e9, e10, e11, ntt, ntd, hlt', ntt5]
    refine callG_c (by simp) (by simp) ?ha (pl _) ?_
    (case ha => simp (disch := first | omega | (simp; done) | fail) [wrap64c, if_pos, if_neg, opAnd, opOr, opXor, opDiff, opShr, opBit, ntv, csv, nty, csy, e6, e7, e8, e9, e10, e11, ntt, ntd, hlt', ntt5])
    try simp (disch := first | omega | (simp; done) | fail) [wrap64c, if_pos, if_neg, opAnd, opOr, opXor, opDiff, opShr, opBit, ntv, csv, nty, csy, e6, e7, e8, e9, e10, e11, ntt, ntd, hlt', ntt5]
    refine callG_c (by simp) (by simp) ?ha (p4) ?_
    (case ha => simp (disch := first | omega | (simp; done) | fail) [wrap64c, if_pos, if_neg, opAnd, opOr, opXor, opDiff, opShr, opBit, ntv, csv, nty, csy, e6, e7, e8, e9, e10, e11, ntt, ntd, hlt', ntt5])
    try simp (disch := first | omega | (simp; done) | fail) [wrap64c, if_pos, if_neg, opAnd, opOr, opXor, opDiff, opShr, opBit, ntv, csv, nty, csy, e6, e7, e8, e9, e10, e11, ntt, ntd, hlt', ntt5, hap5]
    refine callG_c (by simp) (by simp) ?ha (p6) ?_
    (case ha => simp (disch := first | omega | (simp; done) | fail) [wrap64c, if_pos, if_neg, opAnd, opOr, opXor, opDiff, opShr, opBit, ntv, csv, nty, csy, e6, e7, e8, e9, e10, e11, ntt, ntd, hlt', ntt5])
    try simp (disch := first | omega | (simp; done) | fail) [wrap64c, if_pos, if_neg, opAnd, opOr, opXor, opDiff, opShr, opBit, ntv, csv, nty, csy, e6, e7, e8, e9, e10, e11, ntt, ntd, hlt', ntt5, hap7]
    refine loopK_next _ ?hm ?hf ⟨t5, T ++ [1 + (r4 : Int)], d7, D ++ [(r6 : Int)], i + 1, rfl, (by simp (disch := first | omega | (simp; done) | fail) [wrap64c, if_pos, if_neg, opAnd, opOr, opXor, opDiff, opShr, opBit, ntv, csv, nty, csy, e6, e7, e8, e9, e10, e11, ntt, ntd, hlt', ntt5] <;> omega), (by simp (disch := first | omega | (simp; done) | fail) [wrap64c, if_pos, if_neg, opAnd, opOr, opXor, opDiff, opShr, opBit, ntv, csv, nty, csy, e6, e7, e8, e9, e10, e11, ntt, ntd, hlt', ntt5] <;> omega), (by simp (disch := first | omega | (simp; done) | fail) [wrap64c, if_pos, if_neg, opAnd, opOr, opXor, opDiff, opShr, opBit, ntv, csv, nty, csy, e6, e7, e8, e9, e10, e11, ntt, ntd, hlt', ntt5] <;> omega), (by omega), ht7, hd7, ap7.symm, (by simp [lT]), (by simp [lD]), (d7'.mono (by omega))⟩
    (case hm => first | omega | (simp; omega))
    (case hf => simp [FrameL, ntv, csv, nty, csy, e6, e7, e8, e9, e10, e11, ntt, ntd, hlt', ntt5, f6_0, f7_0, f8_0])
  · have hlt' : ¬ (i : Int) < nn := by omega
    have lnT := ht.lenD
    have cst := ((ht.own (by omega)).ints).cs
    have csd := ((hd.own (by omega)).ints).cs
    try simp (disch := first | omega | (simp; done) | fail) [wrap64c, if_pos, if_neg, opAnd, opOr, opXor, opDiff, opShr, opBit, ntv, csv, nty, csy, e6, e7, e8, e9, e10, e11, ntt, ntd, hlt', lnT, cst, csd]
    refine callG_c (by simp) (by simp) ?ha (pl _) ?_
    (case ha => simp (disch := first | omega | (simp; done) | fail) [wrap64c, if_pos, if_neg, opAnd, opOr, opXor, opDiff, opShr, opBit, ntv, csv, nty, csy, e6, e7, e8, e9, e10, e11, ntt, ntd, hlt', lnT, cst, csd])
    by_cases hT0 : 0 < (T.length : Int)
    · obtain ⟨_, h4, p4, b4, rfl, w4⟩ := one_ok h.next h.next (4 * i) hq 10 hc.cur (by omega)
      have d4 := hc.trans (w4.dr hc.add hc.cur)
      have n4 := w4.nx
      have ht4 := ints_cur ht (b := h4) (by omega) (fun p h1 h2 => w4.get p h2 (by omega))
      have hd4 := ints_cur hd (b := h4) (by omega) (fun p h1 h2 => w4.get p h2 (by omega))
      have hy4 := (hyK h4 _ d4).rows
      try simp (disch := first | omega | (simp; done) | fail) [wrap64c, if_pos, if_neg, opAnd, opOr, opXor, opDiff, opShr, opBit, ntv, csv, nty, csy, e6, e7, e8, e9, e10, e11, ntt, ntd, hlt', lnT, cst, csd, hT0]
      refine callG_c (by simp) (by simp) ?ha (p4) ?_
      (case ha => simp (disch := first | omega | (simp; done) | fail) [wrap64c, if_pos, if_neg, opAnd, opOr, opXor, opDiff, opShr, opBit, ntv, csv, nty, csy, e6, e7, e8, e9, e10, e11, ntt, ntd, hlt', lnT, cst, csd, hT0])
      cases b4
      · try simp (disch := first | omega | (simp; done) | fail) [wrap64c, if_pos, if_neg, opAnd, opOr, opXor, opDiff, opShr, opBit, ntv, csv, nty, csy, e6, e7, e8, e9, e10, e11, ntt, ntd, hlt', lnT, cst, csd, hT0]
        exact done_ret (vs := [.int .i64 n, y, t, d]) (by simp [resL]) ⟨d4.add, _, _, _, _, _, _, _, rfl, hy4, lL, (ht4.own (by omega)).ints, by omega, (hd4.own (by omega)).ints, by omega⟩
      · obtain ⟨hl6, hl6E⟩ : ∃ hz, hz = h4.alloc (.cells [.int .i64 0, .int .i64 9, .int .i64 10] true true 1) := ⟨_, rfl⟩
        have k6 : Adds h4 hl6 := by rw [hl6E]; exact (by first | exact aK | exact kK)
        have n6 : hl6.next = h4.next + 1 := by rw [hl6E]; rfl
        have d6 := d4.trans (DrW.of_adds d4.add d4.cur k6)
        have i6 : IntsF (fun x => x ≠ h.next) hl6 (.slice (some ⟨h4.next, 0, none⟩) 3 3) [0, 9, 10] := lit_ints (xs := [0, 9, 10]) (own := true) (ex := true) (es := 1) (by simp [hl6E]) (by omega) (by omega) (by simp)
        obtain ⟨v8, h8, p8, r8, q8, e8_, w8⟩ := among_ok h.next h.next (4 * i + 2) hl6 _ _ d6.cur (by omega) i6 (by simp)
        subst e8_
        generalize hx8 : [(0 : Int), 9, 10][r8] = x8 at p8
        have d8 := d6.trans (w8.dr d6.add d6.cur)
        have n8 := w8.nx
        have ht8 := ints_cur (ints_cur ht4 (by omega) (fun p h1 h2 => k6.1.2 p h2)) (b := h8) (by omega) (fun p h1 h2 => w8.get p h2 (by omega))
        have hd8 := ints_cur (ints_cur hd4 (by omega) (fun p h1 h2 => k6.1.2 p h2)) (b := h8) (by omega) (fun p h1 h2 => w8.get p h2 (by omega))
        try simp (disch := first | omega | (simp; done) | fail) [wrap64c, if_pos, if_neg, opAnd, opOr, opXor, opDiff, opShr, opBit, ntv, csv, nty, csy, e6, e7, e8, e9, e10, e11, ntt, ntd, hlt', lnT, cst, csd, hT0]
        rw [← hl6E]
        refine callG_c (by simp) (by simp) ?ha (p8) ?_
        (case ha => simp (disch := first | omega | (simp; done) | fail) [wrap64c, if_pos, if_neg, opAnd, opOr, opXor, opDiff, opShr, opBit, ntv, csv, nty, csy, e6, e7, e8, e9, e10, e11, ntt, ntd, hlt', lnT, cst, csd, hT0])
        have hto := ht8.own (by omega)
        obtain ⟨o_q, i_q, c_q, cs_q, ex_q, q_q, S_q, b_q, g_q, l_q, r_q⟩ := hto.open ((by omega))
        have z_q : ∀ h2 : i_q < cs_q.length, cs_q[i_q] = _ := fun h2 => r_q 0 ((by omega)) h2
        have hsw := hto.write q_q (k := 0) (by omega) g_q x8
        have hdw := apt_put hd8 ap q_q (.cells (putCells cs_q (i_q + 0) [.int .i64 x8]) true ex_q 1)
        have hSq := S_q.1
        have hyw := (hyK h8 _ d8).same (h := h8) (h' := h8.put o_q (.cells (putCells cs_q (i_q + 0) [.int .i64 x8]) true ex_q 1)) ⟨Nat.le_refl _, fun p hp hl => by have := hp.2; simp [show p ≠ o_q by omega]⟩
        have hsw' := hsw.ints
        rw [q_q] at hsw'
        try simp (disch := first | omega | (simp; done) | fail) [wrap64c, if_pos, if_neg, opAnd, opOr, opXor, opDiff, opShr, opBit, ntv, csv, nty, csy, e6, e7, e8, e9, e10, e11, ntt, ntd, hlt', lnT, cst, csd, hT0, q_q, g_q, l_q, r_q, z_q]
        exact done_ret (vs := [.int .i64 n, y, .slice (some ⟨o_q, i_q, none⟩) T.length c_q, d]) (by simp [resL]) ⟨d8.add.put (by omega) (fun _ => rfl), _, _, _, _, _, _, _, rfl, hyw.rows, lL, hsw', by simp; omega, (hdw.own (by omega)).ints, by omega⟩
    · try simp (disch := first | omega | (simp; done) | fail) [wrap64c, if_pos, if_neg, opAnd, opOr, opXor, opDiff, opShr, opBit, ntv, csv, nty, csy, e6, e7, e8, e9, e10, e11, ntt, ntd, hlt', lnT, cst, csd, hT0]
      exact done_ret (vs := [.int .i64 n, y, t, d]) (by simp [resL]) ⟨hc.add, _, _, _, _, _, _, _, rfl, (hyK _ _ hc).rows, lL, (ht.own (by omega)).ints, by omega, (hd.own (by omega)).ints, by omega⟩
end Go.Proofs.Ytnncipcldbopgaa
namespace Go.Proofs.Ytnncipcldbopgaa
set_option linter.unusedSimpArgs false
set_option linter.unusedVariables false
set_option maxHeartbeats 4000000
open Go Go.Eng
attribute [local irreducible] WD RunD PreD Runs CallOK
def sumT (L : List Job) (s : Nat) : Nat → Int
  | 0 => 0
  | k + 1 => if s.testBit k = true then sumT L s k else sumT L s k + (jobAt L k).ti
def costN (L : List Job) (s i : Nat) : Int := (jobAt L i).ra * sumT L s L.length + (jobAt L i).ba
structure JobsOK (L : List Job) : Prop where
  n7 : L.length ≤ 7
  ok : ∀ k, k < L.length → jobOK (jobAt L k) = true
theorem JobsOK.at {L : List Job} (g : JobsOK L) {k : Nat} (hk : k < L.length) : (1 ≤ (jobAt L k).ti ∧ (jobAt L k).ti ≤ 9) ∧ (0 ≤ (jobAt L k).ra ∧ (jobAt L k).ra ≤ 9) ∧ (-100 ≤ (jobAt L k).ba ∧ (jobAt L k).ba ≤ 100) := jobOK_true (g.ok k hk)
theorem sumT_le {L : List Job} (g : JobsOK L) (s : Nat) : ∀ k, k ≤ L.length → 0 ≤ sumT L s k ∧ sumT L s k ≤ 9 * k
  | 0, _ => by simp [sumT]
  | k + 1, h => by
    have h1 := sumT_le g s k (by omega)
    have h2 := g.at (k := k) (by omega)
    rw [sumT]
    split <;> omega
theorem mul_le {a b : Int} (h1 : 0 ≤ a) (h2 : a ≤ 9) (h3 : 0 ≤ b) (h4 : b ≤ 63) : 0 ≤ a * b ∧ a * b ≤ 567 := by
  refine ⟨Int.mul_nonneg h1 h3, ?_⟩
  have h5 : a * b ≤ 9 * 63 := Int.mul_le_mul h2 h4 h3 (by omega)
  omega
theorem costN_le {L : List Job} (g : JobsOK L) (s : Nat) {i : Nat} (hi : i < L.length) : -100 ≤ costN L s i ∧ costN L s i ≤ 667 := by
  have h1 := sumT_le g s L.length (Nat.le_refl _)
  have h2 := g.at hi
  have h3 := g.n7
  have h4 := mul_le h2.2.1.1 h2.2.1.2 h1.1 (by omega)
  unfold costN
  omega
theorem cost_ok (h : Hp) (v : Value) (L : List Job) (s i : Nat) (hv : Jobs h v L) (g : JobsOK L) (hs : s < 128) (hi : i < L.length) :
    CallOK Try.prog 182 #[v, .int .i64 (s : Int), .int .i64 (i : Int)] h (.int .i64 (costN L s i)) h := by
  refine callY_P 40 _ [.tmp 6] Try.func182 rfl rfl rfl (by first | rfl | simp) ?_
  have hL := hv.lenD
  have n7 := g.n7
  try simp (disch := first | omega | (simp; done) | fail) [wrap64c, if_pos, if_neg, opAnd, opOr, opXor, opDiff, opShr, opBit, hL]
  refine WD_loopC [0, 1, 2, 10, 11] (fun m tm h' => ∃ j, m = L.length - j ∧ tm 7 = .int .i64 (sumT L s j) ∧ tm 12 = .int .i64 (j : Int) ∧ (j ≤ L.length) ∧ (Keeps h h')) _ ⟨0, rfl, (by simp [sumT]), (by simp (disch := first | omega | (simp; done) | fail) [wrap64c, if_pos, if_neg, opAnd, opOr, opXor, opDiff, opShr, opBit, hL]), (by first | omega | assumption | (simp (disch := first | omega | (simp; done) | fail) [wrap64c, if_pos, if_neg, opAnd, opOr, opXor, opDiff, opShr, opBit, hL] <;> omega)), (Keeps.refl _)⟩ ?_
  rintro m tm h' hFr ⟨j, rfl, e7, e12, hj, ha⟩
  simp only [FrameL] at hFr
  obtain ⟨f0_0, f1_0, f2_0, f10_0, f11_0, -⟩ := hFr
  try simp (disch := first | omega | (simp; done) | fail) [wrap64c, if_pos, if_neg, opAnd, opOr, opXor, opDiff, opShr, opBit, hL] at f0_0 f1_0 f2_0 f10_0 f11_0
  have e0 := f0_0
  have e1 := f1_0
  have e2 := f2_0
  have e10 := f10_0
  have e11 := f11_0
  have ha1 := ha.1
  by_cases hlt : j < L.length
  · have hv1 := hv.keep ha
    obtain ⟨o_x, i_x, c_x, cs_x, own_x, ex_x, es_x, q_x, b_x, g_x, l_x, r_x, s_x, t_x, u_x, ra_x, rb_x, rc_x⟩ := hv1.open ((by omega))
    have h1 := nShr_le s j
    have h2 := nShr_and01 s j
    have hsl := sumT_le g s j hj
    have hat := g.at hlt
    cases hb : s.testBit j
    · have h3 : nAnd (nShr s j) 1 = 0 := by rw [h2, hb]; rfl
      have hs1 : sumT L s (j + 1) = sumT L s j + (jobAt L j).ti := by rw [sumT, if_neg (by simp [hb])]
      try simp (disch := first | omega | (simp; done) | fail) [wrap64c, if_pos, if_neg, opAnd, opOr, opXor, opDiff, opShr, opBit, hL, e0, e1, e2, e7, e10, e11, e12, hlt, q_x, g_x, l_x, r_x, s_x, t_x, u_x, ra_x, rb_x, rc_x, h3, jobL, putCells]
      refine loopK_next _ ?hm ?hf ⟨j + 1, rfl, (by simp [hs1, e7]), (by simp (disch := first | omega | (simp; done) | fail) [wrap64c, if_pos, if_neg, opAnd, opOr, opXor, opDiff, opShr, opBit, hL, e0, e1, e2, e7, e10, e11, e12, hlt, q_x, g_x, l_x, r_x, s_x, t_x, u_x, ra_x, rb_x, rc_x, h3] <;> omega), (by first | omega | assumption | (simp (disch := first | omega | (simp; done) | fail) [wrap64c, if_pos, if_neg, opAnd, opOr, opXor, opDiff, opShr, opBit, hL, e0, e1, e2, e7, e10, e11, e12, hlt, q_x, g_x, l_x, r_x, s_x, t_x, u_x, ra_x, rb_x, rc_x, h3] <;> omega)), (by first | exact aK | exact kK)⟩
      (case hm => first | omega | (simp; omega))
      (case hf => simp [FrameL, hL, e0, e1, e2, e7, e10, e11, e12, hlt, q_x, g_x, l_x, r_x, s_x, t_x, u_x, ra_x, rb_x, rc_x, h3, f0_0, f1_0, f2_0, f10_0, f11_0])
    · have h3 : nAnd (nShr s j) 1 = 1 := by rw [h2, hb]; rfl
      have hs1 : sumT L s (j + 1) = sumT L s j := by rw [sumT, if_pos hb]
      try simp (disch := first | omega | (simp; done) | fail) [wrap64c, if_pos, if_neg, opAnd, opOr, opXor, opDiff, opShr, opBit, hL, e0, e1, e2, e7, e10, e11, e12, hlt, q_x, g_x, l_x, r_x, s_x, t_x, u_x, ra_x, rb_x, rc_x, h3, jobL, putCells]
      refine loopK_next _ ?hm ?hf ⟨j + 1, rfl, (by simp [hs1, e7]), (by simp (disch := first | omega | (simp; done) | fail) [wrap64c, if_pos, if_neg, opAnd, opOr, opXor, opDiff, opShr, opBit, hL, e0, e1, e2, e7, e10, e11, e12, hlt, q_x, g_x, l_x, r_x, s_x, t_x, u_x, ra_x, rb_x, rc_x, h3] <;> omega), (by first | omega | assumption | (simp (disch := first | omega | (simp; done) | fail) [wrap64c, if_pos, if_neg, opAnd, opOr, opXor, opDiff, opShr, opBit, hL, e0, e1, e2, e7, e10, e11, e12, hlt, q_x, g_x, l_x, r_x, s_x, t_x, u_x, ra_x, rb_x, rc_x, h3] <;> omega)), (by first | exact aK | exact kK)⟩
      (case hm => first | omega | (simp; omega))
      (case hf => simp [FrameL, hL, e0, e1, e2, e7, e10, e11, e12, hlt, q_x, g_x, l_x, r_x, s_x, t_x, u_x, ra_x, rb_x, rc_x, h3, f0_0, f1_0, f2_0, f10_0, f11_0])
  · have hje : j = L.length := by omega
    have hv1 := hv.keep ha
    obtain ⟨o_x, i_x, c_x, cs_x, own_x, ex_x, es_x, q_x, b_x, g_x, l_x, r_x, s_x, t_x, u_x, ra_x, rb_x, rc_x⟩ := hv1.open ((by omega))
    have hsl := sumT_le g s j hj
    have hat := g.at hi
    have hml := mul_le hat.2.1.1 hat.2.1.2 hsl.1 (by omega)
    try simp (disch := first | omega | (simp; done) | fail) [wrap64c, if_pos, if_neg, opAnd, opOr, opXor, opDiff, opShr, opBit, hL, e0, e1, e2, e7, e10, e11, e12, hlt, q_x, g_x, l_x, r_x, s_x, t_x, u_x, ra_x, rb_x, rc_x]
    refine WD_drawC 12 rfl (by kernel_rfl) ?_
    try simp (disch := first | omega | (simp; done) | fail) [wrap64c, if_pos, if_neg, opAnd, opOr, opXor, opDiff, opShr, opBit, hL, e0, e1, e2, e7, e10, e11, e12, hlt, q_x, g_x, l_x, r_x, s_x, t_x, u_x, ra_x, rb_x, rc_x]
    exact done_ret rfl (by simp [costN, hje, ha])
theorem grCost_ok (h : Hp) (v : Value) (L : List Job) (s i : Nat) (hv : Jobs h v L) (g : JobsOK L) (hs : s < 128) (hi : i < L.length) :
    CallOK Try.prog 207 #[v, .int .i64 (s : Int), .int .i64 (i : Int)] h (.int .i64 (costN L s i)) h := by
  refine callY_P 39 _ [.tmp 6] Try.func207 rfl rfl rfl (by first | rfl | simp) ?_
  have hL := hv.lenD
  have n7 := g.n7
  try simp (disch := first | omega | (simp; done) | fail) [wrap64c, if_pos, if_neg, opAnd, opOr, opXor, opDiff, opShr, opBit, hL]
  refine WD_loopC [0, 1, 2, 10, 11] (fun m tm h' => ∃ j, m = L.length - j ∧ tm 7 = .int .i64 (sumT L s j) ∧ tm 12 = .int .i64 (j : Int) ∧ (j ≤ L.length) ∧ (Keeps h h')) _ ⟨0, rfl, (by simp [sumT]), (by simp (disch := first | omega | (simp; done) | fail) [wrap64c, if_pos, if_neg, opAnd, opOr, opXor, opDiff, opShr, opBit, hL]), (by first | omega | assumption | (simp (disch := first | omega | (simp; done) | fail) [wrap64c, if_pos, if_neg, opAnd, opOr, opXor, opDiff, opShr, opBit, hL] <;> omega)), (Keeps.refl _)⟩ ?_
  rintro m tm h' hFr ⟨j, rfl, e7, e12, hj, ha⟩
  simp only [FrameL] at hFr
  obtain ⟨f0_0, f1_0, f2_0, f10_0, f11_0, -⟩ := hFr
  try simp (disch := first | omega | (simp; done) | fail) [wrap64c, if_pos, if_neg, opAnd, opOr, opXor, opDiff, opShr, opBit, hL] at f0_0 f1_0 f2_0 f10_0 f11_0
  have e0 := f0_0
  have e1 := f1_0
  have e2 := f2_0
  have e10 := f10_0
  have e11 := f11_0
  have ha1 := ha.1
  by_cases hlt : j < L.length
  · have hv1 := hv.keep ha
    obtain ⟨o_x, i_x, c_x, cs_x, own_x, ex_x, es_x, q_x, b_x, g_x, l_x, r_x, s_x, t_x, u_x, ra_x, rb_x, rc_x⟩ := hv1.open ((by omega))
    have hsl := sumT_le g s j hj
    have hat := g.at hlt
    try simp (disch := first | omega | (simp; done) | fail) [wrap64c, if_pos, if_neg, opAnd, opOr, opXor, opDiff, opShr, opBit, hL, e0, e1, e2, e7, e10, e11, e12, hlt, q_x, g_x, l_x, r_x, s_x, t_x, u_x, ra_x, rb_x, rc_x, jobL, putCells]
    first | refine WY_heap fun h2 q_h2 => ?_ | refine callG_heap fun h2 q_h2 => ?_ | refine callP_heap fun h2 q_h2 => ?_ | refine callS_heap fun h2 q_h2 => ?_ | refine RY_heap fun h2 q_h2 => ?_ | refine PY_heap fun h2 q_h2 => ?_ | refine SY_heap fun h2 q_h2 => ?_ | refine doneY_heap fun h2 q_h2 => ?_ | refine loopK_heap fun h2 q_h2 => ?_ | refine thenY_heap fun h2 q_h2 => ?_ | refine thenM_heap fun h2 q_h2 => ?_
    have k2 : Keeps h h2 := by rw [q_h2]; exact (by first | exact aK | exact kK)
    have g2 : h2.get h'.next = .cells [.int .i64 (jobAt L j).ti, .int .i64 (jobAt L j).ra, .int .i64 (jobAt L j).ba] true true 1 := by simp [q_h2, putCells]
    refine callG_c (by simp) (by simp) ?ha (spIn_ok h2 s j (by omega) (by omega)) ?_
    (case ha => simp (disch := first | omega | (simp; done) | fail) [wrap64c, if_pos, if_neg, opAnd, opOr, opXor, opDiff, opShr, opBit, hL, e0, e1, e2, e7, e10, e11, e12, hlt, q_x, g_x, l_x, r_x, s_x, t_x, u_x, ra_x, rb_x, rc_x, g2])
    cases hb : s.testBit j
    · have hs1 : sumT L s (j + 1) = sumT L s j + (jobAt L j).ti := by rw [sumT, if_neg (by simp [hb])]
      try simp (disch := first | omega | (simp; done) | fail) [wrap64c, if_pos, if_neg, opAnd, opOr, opXor, opDiff, opShr, opBit, hL, e0, e1, e2, e7, e10, e11, e12, hlt, q_x, g_x, l_x, r_x, s_x, t_x, u_x, ra_x, rb_x, rc_x, g2, hb]
      refine loopK_next _ ?hm ?hf ⟨j + 1, rfl, (by simp [hs1, e7]), (by simp (disch := first | omega | (simp; done) | fail) [wrap64c, if_pos, if_neg, opAnd, opOr, opXor, opDiff, opShr, opBit, hL, e0, e1, e2, e7, e10, e11, e12, hlt, q_x, g_x, l_x, r_x, s_x, t_x, u_x, ra_x, rb_x, rc_x, g2, hb] <;> omega), (by first | omega | assumption | (simp (disch := first | omega | (simp; done) | fail) [wrap64c, if_pos, if_neg, opAnd, opOr, opXor, opDiff, opShr, opBit, hL, e0, e1, e2, e7, e10, e11, e12, hlt, q_x, g_x, l_x, r_x, s_x, t_x, u_x, ra_x, rb_x, rc_x, g2, hb] <;> omega)), k2⟩
      (case hm => first | omega | (simp; omega))
      (case hf => simp [FrameL, hL, e0, e1, e2, e7, e10, e11, e12, hlt, q_x, g_x, l_x, r_x, s_x, t_x, u_x, ra_x, rb_x, rc_x, g2, hb, f0_0, f1_0, f2_0, f10_0, f11_0])
    · have hs1 : sumT L s (j + 1) = sumT L s j := by rw [sumT, if_pos hb]
      try simp (disch := first | omega | (simp; done) | fail) [wrap64c, if_pos, if_neg, opAnd, opOr, opXor, opDiff, opShr, opBit, hL, e0, e1, e2, e7, e10, e11, e12, hlt, q_x, g_x, l_x, r_x, s_x, t_x, u_x, ra_x, rb_x, rc_x, g2, hb]
      refine loopK_next _ ?hm ?hf ⟨j + 1, rfl, (by simp [hs1, e7]), (by simp (disch := first | omega | (simp; done) | fail) [wrap64c, if_pos, if_neg, opAnd, opOr, opXor, opDiff, opShr, opBit, hL, e0, e1, e2, e7, e10, e11, e12, hlt, q_x, g_x, l_x, r_x, s_x, t_x, u_x, ra_x, rb_x, rc_x, g2, hb] <;> omega), (by first | omega | assumption | (simp (disch := first | omega | (simp; done) | fail) [wrap64c, if_pos, if_neg, opAnd, opOr, opXor, opDiff, opShr, opBit, hL, e0, e1, e2, e7, e10, e11, e12, hlt, q_x, g_x, l_x, r_x, s_x, t_x, u_x, ra_x, rb_x, rc_x, g2, hb] <;> omega)), k2⟩
      (case hm => first | omega | (simp; omega))
      (case hf => simp [FrameL, hL, e0, e1, e2, e7, e10, e11, e12, hlt, q_x, g_x, l_x, r_x, s_x, t_x, u_x, ra_x, rb_x, rc_x, g2, hb, f0_0, f1_0, f2_0, f10_0, f11_0])
  · have hje : j = L.length := by omega
    have hv1 := hv.keep ha
    obtain ⟨o_x, i_x, c_x, cs_x, own_x, ex_x, es_x, q_x, b_x, g_x, l_x, r_x, s_x, t_x, u_x, ra_x, rb_x, rc_x⟩ := hv1.open ((by omega))
    have hsl := sumT_le g s j hj
    have hat := g.at hi
    have hml := mul_le hat.2.1.1 hat.2.1.2 hsl.1 (by omega)
    try simp (disch := first | omega | (simp; done) | fail) [wrap64c, if_pos, if_neg, opAnd, opOr, opXor, opDiff, opShr, opBit, hL, e0, e1, e2, e7, e10, e11, e12, hlt, q_x, g_x, l_x, r_x, s_x, t_x, u_x, ra_x, rb_x, rc_x]
    refine WD_drawC 12 rfl (by kernel_rfl) ?_
    try simp (disch := first | omega | (simp; done) | fail) [wrap64c, if_pos, if_neg, opAnd, opOr, opXor, opDiff, opShr, opBit, hL, e0, e1, e2, e7, e10, e11, e12, hlt, q_x, g_x, l_x, r_x, s_x, t_x, u_x, ra_x, rb_x, rc_x]
    exact done_ret rfl (by simp [costN, hje, ha])
end Go.Proofs.Ytnncipcldbopgaa
namespace Go.Proofs.Ytnncipcldbopgaa
set_option linter.unusedSimpArgs false
set_option linter.unusedVariables false
set_option maxHeartbeats 4000000
open Go Go.Eng
attribute [local irreducible] WD RunD PreD Runs CallOK
def lessO (c : Nat → Int) (o : Option Nat) (i : Nat) : Option Nat := match o with
  | none => some i
  | some b => if c i < c b then some i else some b
def leastO (c : Nat → Int) : List Nat → Option Nat → Option Nat
  | [], o => o
  | i :: l, o => leastO c l (lessO c o i)
theorem leastO_snoc (c : Nat → Int) (a : Nat) : ∀ (l : List Nat) (o : Option Nat), leastO c (l ++ [a]) o = lessO c (leastO c l o) a
  | [], o => rfl
  | i :: l, o => by simp only [List.cons_append, leastO, leastO_snoc c a l]
theorem lessO_some (c : Nat → Int) (o : Option Nat) (i : Nat) : ∃ b, lessO c o i = some b ∧ (b = i ∨ o = some b) := by
  cases o with
  | none => exact ⟨i, rfl, .inl rfl⟩
  | some b =>
    simp only [lessO]
    by_cases h : c i < c b
    · exact ⟨i, by rw [if_pos h], .inl rfl⟩
    · exact ⟨b, by rw [if_neg h], .inr rfl⟩
theorem leastO_mem (c : Nat → Int) : ∀ (l : List Nat) (b : Nat), leastO c l none = some b → b ∈ l := by
  intro l
  suffices h : ∀ (l : List Nat) (o : Option Nat) (b : Nat), leastO c l o = some b → b ∈ l ∨ o = some b by
    intro b hb
    rcases h l none b hb with h1 | h1
    · exact h1
    · cases h1
  intro l
  induction l with
  | nil => intro o b h; exact .inr h
  | cons i l ih =>
    intro o b h
    rcases ih _ b h with h1 | h1
    · exact .inl (by simp [h1])
    · obtain ⟨b', e, h2⟩ := lessO_some c o i
      rw [e] at h1
      cases h1
      rcases h2 with rfl | h2
      · exact .inl (by simp)
      · exact .inr h2
theorem leastO_some (c : Nat → Int) {l : List Nat} (h : l ≠ []) : ∃ b, leastO c l none = some b ∧ b ∈ l := by
  suffices h' : ∀ (l : List Nat) (o : Option Nat), (l ≠ [] ∨ o ≠ none) → ∃ b, leastO c l o = some b by
    obtain ⟨b, hb⟩ := h' l none (.inl h)
    exact ⟨b, hb, leastO_mem c l b hb⟩
  intro l
  induction l with
  | nil =>
    intro o h
    cases o with
    | none => simp at h
    | some b => exact ⟨b, rfl⟩
  | cons i l ih =>
    intro o _
    obtain ⟨b, e, _⟩ := lessO_some c o i
    exact ih _ (.inr (by rw [e]; simp))
def optI : Option Nat → Int
  | none => -1
  | some b => (b : Int)
def optC (c : Nat → Int) : Option Nat → Int
  | none => 0
  | some b => c b
def nextG (c : Nat → Nat → Int) (M : Nat → Bool) (n s : Nat) : Nat := (leastO (c s) (itemsN (outerN M n s)) none).getD 0
def greedS (c : Nat → Nat → Int) (M : Nat → Bool) (n : Nat) : Nat → List Nat × Nat
  | 0 => ([], 0)
  | k + 1 => ((greedS c M n k).1 ++ [nextG c M n (greedS c M n k).2], nOr (greedS c M n k).2 (bit (nextG c M n (greedS c M n k).2)))
theorem greed_len (c : Nat → Nat → Int) (M : Nat → Bool) (n : Nat) : ∀ k, (greedS c M n k).1.length = k
  | 0 => rfl
  | k + 1 => by simp [greedS, greed_len c M n k]
theorem nextG_mem (c : Nat → Nat → Int) {M : Nat → Bool} {n s : Nat} (h : itemsN (outerN M n s) ≠ []) : leastO (c s) (itemsN (outerN M n s)) none = some (nextG c M n s) ∧ nextG c M n s ∈ itemsN (outerN M n s) := by
  obtain ⟨b, h1, h2⟩ := leastO_some (c s) h
  unfold nextG
  rw [h1]
  exact ⟨rfl, h2⟩
theorem greed_inv {n : Nat} {xs : List Nat} (g : SpGood n xs) (c : Nat → Nat → Int) : ∀ k, k ≤ n → (greedS c (fam xs) n k).2 ∈ xs ∧ pcN (greedS c (fam xs) n k).2 = k
  | 0, _ => ⟨g.zero, by show pcN 0 = 0; decide⟩
  | k + 1, hk => by
    obtain ⟨h1, h2⟩ := greed_inv g c k (by omega)
    have hne : (greedS c (fam xs) n k).2 ≠ bit n - 1 := by intro e; rw [e, pcN_full g.n7] at h2; omega
    have hm := (nextG_mem c (M := fam xs) (n := n) (s := (greedS c (fam xs) n k).2) (items_ne (by have := outerN_lt (fam xs) n (greedS c (fam xs) n k).2; have := bit7 g.n7; omega) (g.outer h1 hne))).2
    obtain ⟨l1, l2, l3⟩ := g.learn hm
    refine ⟨l3, ?_⟩
    rw [greedS, pcN_or (g.lt7 _ h1) (by have := g.n7; omega) l2, h2]
theorem greed_ne {n : Nat} {xs : List Nat} (g : SpGood n xs) (c : Nat → Nat → Int) {k : Nat} (hk : k < n) : itemsN (outerN (fam xs) n (greedS c (fam xs) n k).2) ≠ [] := by
  obtain ⟨h1, h2⟩ := greed_inv g c k (by omega)
  have hne : (greedS c (fam xs) n k).2 ≠ bit n - 1 := by intro e; rw [e, pcN_full g.n7] at h2; omega
  exact items_ne (by have := outerN_lt (fam xs) n (greedS c (fam xs) n k).2; have := bit7 g.n7; omega) (g.outer h1 hne)
theorem greed_end {n : Nat} {xs : List Nat} (g : SpGood n xs) (c : Nat → Nat → Int) {k : Nat} (hk : k ≤ n) : (greedS c (fam xs) n k).2 = bit n - 1 ↔ k = n := by
  obtain ⟨h1, h2⟩ := greed_inv g c k hk
  constructor
  · intro e; rw [e, pcN_full g.n7] at h2; omega
  · rintro rfl; exact (pcN_lt g.n7 (g.lt _ h1)).2 h2
def greedN (c : Nat → Nat → Int) (xs : List Nat) (n : Nat) : List Nat := (greedS c (fam xs) n n).1
@[simp] theorem greedN_len (c : Nat → Nat → Int) (xs : List Nat) (n : Nat) : (greedN c xs n).length = n := greed_len _ _ _ _
theorem greedy_ok (h : Hp) (v : Value) (n : Nat) (xs : List Nat) (c : Nat → Nat → Int) (f : Nat) (fst cap : Array Value) (hv : Space h v n (toN xs)) (g : SpGood n xs) (hf : fnOK Try.prog f = true)
    (hp : ∀ h' s i, Keeps h h' → s < 128 → i < n → CallOK Try.prog f (fst ++ #[.int .i64 (s : Int), .int .i64 (i : Int)] ++ cap) h' (.int .i64 (c s i)) h') :
    ∃ v' h', CallOK Try.prog 196 #[v, .func (.func f) fst cap] h v' h' ∧ Adds h h' ∧ IntsO (Btw h.next h'.next) h' v' (toN (greedN c xs n)) := by
  refine callY_L (args := [v, .func (.func f) fst cap]) 52 _ [.tmp 4] Try.func196 rfl rfl rfl ?_
  obtain ⟨b, rfl, hX⟩ := hv
  refine WD_first ?_
  try simp (disch := first | omega | (simp; done) | fail) [wrap64c, if_pos, if_neg, opAnd, opOr, opXor, opDiff, opShr, opBit]
  refine stopK_heap fun h0 q_h0 => ?_
  refine stopK_go ?_
  have g_h0 : h0.get h.next = .cells [.int .i64 n, b] true true 1 := by simp [q_h0]
  have k_h0 : Adds h h0 := by rw [q_h0]; exact (by first | exact aK | exact kK)
  have n_h0 : h.next < h0.next := by simp [q_h0]; try omega
  have hX1 := hX.keep k_h0.1
  have n7 := g.n7
  have hb7 := bit7 n7
  have hf1 := hf
  try simp (disch := first | omega | (simp; done) | fail) [wrap64c, if_pos, if_neg, opAnd, opOr, opXor, opDiff, opShr, opBit, g_h0, hf1]
  obtain ⟨_, h1, hc1, o1, rfl, ha1, ho1, ho2, hg1⟩ := family_ok h0 (.agg #[.int .i64 (n : Int), b]) n xs (.mk hX1) g.lt7 (by have := g.len7; omega)
  refine callG_c (by simp) (by simp) ?ha (hc1) ?_
  (case ha => simp (disch := first | omega | (simp; done) | fail) [wrap64c, if_pos, if_neg, opAnd, opOr, opXor, opDiff, opShr, opBit, g_h0, hf1])
  have g1 : h1.get h.next = .cells [.int .i64 n, b] true true 1 := by rw [ha1.1.2 _ (by omega)]; exact g_h0
  have A1 := k_h0.trans ha1
  have hX2 := hX1.keep ha1.1
  have hn1 := ha1.1.1
  try simp (disch := first | omega | (simp; done) | fail) [wrap64c, if_pos, if_neg, opAnd, opOr, opXor, opDiff, opShr, opBit, g_h0, hf1, g1]
  refine WD_loopC [1, 2, 5] (fun m tm h' => ∃ k u, m = n - k ∧ tm 6 = u ∧ tm 7 = .int .i64 (((greedS c (fam xs) n k).2 : Nat) : Int) ∧ (k ≤ n) ∧ (Adds h1 h') ∧ (IntsA h1.next h' u (toN (greedS c (fam xs) n k).1))) _ ⟨0, _, rfl, (by simp (disch := first | omega | (simp; done) | fail) [wrap64c, if_pos, if_neg, opAnd, opOr, opXor, opDiff, opShr, opBit, g_h0, hf1, g1]), (by simp [greedS]), (by first | omega | assumption | (simp (disch := first | omega | (simp; done) | fail) [wrap64c, if_pos, if_neg, opAnd, opOr, opXor, opDiff, opShr, opBit, g_h0, hf1, g1] <;> omega)), (by first | exact aK | exact kK), (.lit (ex := true) (Nat.le_refl _) (by simp) (by simp [greedS, toN]))⟩ ?_
  rintro m tm h' hFr ⟨k, u, rfl, e6, e7, hk, ha, hu⟩
  simp only [FrameL] at hFr
  obtain ⟨f1_0, f2_0, f5_0, -⟩ := hFr
  try simp (disch := first | omega | (simp; done) | fail) [wrap64c, if_pos, if_neg, opAnd, opOr, opXor, opDiff, opShr, opBit, g_h0, hf1, g1] at f1_0 f2_0 f5_0
  have e1 := f1_0
  have e2 := f2_0
  have e5 := f5_0
  have hlu := greed_len c (fam xs) n k
  obtain ⟨hi1, hi2⟩ := greed_inv g c k hk
  have hs128 := g.lt7 _ hi1
  have g1' : h'.get h.next = .cells [.int .i64 n, b] true true 1 := by rw [ha.1.2 _ (by omega)]; exact g1
  have hgf : h'.get o1 = .cells (famC (fam xs)) true true 1 := by rw [ha.1.2 _ (by omega)]; exact hg1
  have hn2 := ha.1.1
  try simp (disch := first | omega | (simp; done) | fail) [wrap64c, if_pos, if_neg, opAnd, opOr, opXor, opDiff, opShr, opBit, g_h0, hf1, g1, e1, e2, e5, e6, e7, g1']
  refine callG_c (by simp) (by simp) ?ha (all_ok h' (.agg #[.int .i64 (n : Int), b]) n _ (.mk (hX2.keep ha.1)) (by omega)) ?_
  (case ha => simp (disch := first | omega | (simp; done) | fail) [wrap64c, if_pos, if_neg, opAnd, opOr, opXor, opDiff, opShr, opBit, g_h0, hf1, g1, e1, e2, e5, e6, e7, g1'])
  by_cases hlt : k < n
  · have hne : ¬ ((greedS c (fam xs) n k).2 = bit n - 1) := fun e => by have := (greed_end g c hk).1 e; omega
    have hneb : ((((greedS c (fam xs) n k).2 : Nat) : Int) != ((bit n - 1 : Nat) : Int)) = true := by simp [hne]
    obtain ⟨s, hs⟩ : ∃ s, s = (greedS c (fam xs) n k).2 := ⟨_, rfl⟩
    have hout := outerN_lt (fam xs) n s
    have hwn := greed_ne g c hlt
    rw [← hs] at hwn hs128
    obtain ⟨hlo, hmem⟩ := nextG_mem c hwn
    obtain ⟨l1, l2, l3⟩ := g.learn hmem
    have hp64 := bit_lt7 (i := nextG c (fam xs) n s) (by omega)
    have hor := g.lt7 _ l3
    have hs2 := hs.symm
    try simp (disch := first | omega | (simp; done) | fail) [wrap64c, if_pos, if_neg, opAnd, opOr, opXor, opDiff, opShr, opBit, g_h0, hf1, g1, e1, e2, e5, e6, e7, g1', hneb, hs2]
    refine callG_c (by simp) (by simp) ?ha (imOuter_ok h' o1 (fam xs) true true 1 s (by omega) hgf (by omega)) ?_
    (case ha => simp (disch := first | omega | (simp; done) | fail) [wrap64c, if_pos, if_neg, opAnd, opOr, opXor, opDiff, opShr, opBit, g_h0, hf1, g1, e1, e2, e5, e6, e7, g1', hneb, hs2])
    have h7 := g.outer7 s
    try simp (disch := first | omega | (simp; done) | fail) [wrap64c, if_pos, if_neg, opAnd, opOr, opXor, opDiff, opShr, opBit, g_h0, hf1, g1, e1, e2, e5, e6, e7, g1', hneb, hs2, h7]
    obtain ⟨y, h2, hc2, ha2, hi2', _⟩ := items_ok h' (outerN (fam xs) n s) (by omega)
    refine callG_c (by simp) (by simp) ?ha (hc2) ?_
    (case ha => simp (disch := first | omega | (simp; done) | fail) [wrap64c, if_pos, if_neg, opAnd, opOr, opXor, opDiff, opShr, opBit, g_h0, hf1, g1, e1, e2, e5, e6, e7, g1', hneb, hs2, h7])
    have hu2 := hu.keep ha2.1
    have hn3 := ha2.1.1
    have hL := hi2'.lenD
    have hgt := toN_get (itemsN (outerN (fam xs) n s))
    have hln := toN_length (itemsN (outerN (fam xs) n s))
    have hl7 := items_len (outerN (fam xs) n s)
    have K2 := (A1.1.trans ha.1).trans ha2.1
    try simp (disch := first | omega | (simp; done) | fail) [wrap64c, if_pos, if_neg, opAnd, opOr, opXor, opDiff, opShr, opBit, g_h0, hf1, g1, e1, e2, e5, e6, e7, g1', hneb, hs2, h7, hL, hgt]
    refine WD_loopC [1, 2, 5, 6, 7, 23, 24] (fun m tm h' => ∃ j, m = (itemsN (outerN (fam xs) n s)).length - j ∧ h2 = h' ∧ tm 8 = .int .i64 (optI (leastO (c s) ((itemsN (outerN (fam xs) n s)).take j) none)) ∧ tm 9 = .int .i64 (optC (c s) (leastO (c s) ((itemsN (outerN (fam xs) n s)).take j) none)) ∧ tm 25 = .int .i64 (j : Int) ∧ (j ≤ (itemsN (outerN (fam xs) n s)).length)) _ ⟨0, rfl, rfl, (by simp [leastO, optI]), (by simp [leastO, optC]), (by simp (disch := first | omega | (simp; done) | fail) [wrap64c, if_pos, if_neg, opAnd, opOr, opXor, opDiff, opShr, opBit, g_h0, hf1, g1, e1, e2, e5, e6, e7, g1', hneb, hs2, h7, hL, hgt]), (by first | omega | assumption | (simp (disch := first | omega | (simp; done) | fail) [wrap64c, if_pos, if_neg, opAnd, opOr, opXor, opDiff, opShr, opBit, g_h0, hf1, g1, e1, e2, e5, e6, e7, g1', hneb, hs2, h7, hL, hgt] <;> omega))⟩ ?_
    rintro m tm h' hFr ⟨j, rfl, rfl, e8, e9, e25, hj⟩
    simp only [FrameL] at hFr
    obtain ⟨f1_1, f2_1, f5_1, f6_1, f7_1, f23_1, f24_1, -⟩ := hFr
    try simp (disch := first | omega | (simp; done) | fail) [wrap64c, if_pos, if_neg, opAnd, opOr, opXor, opDiff, opShr, opBit, g_h0, hf1, g1, e1, e2, e5, e6, e7, g1', hneb, hs2, h7, hL, hgt] at f1_1 f2_1 f5_1 f6_1 f7_1 f23_1 f24_1
    have e1 := f1_1
    have e2 := f2_1
    have e5 := f5_1
    have e6 := f6_1
    have e7 := f7_1
    have e23 := f23_1
    have e24 := f24_1
    by_cases hlt2 : j < (itemsN (outerN (fam xs) n s)).length
    · have hX3 := hi2'.ints
      obtain ⟨o_x, i_x, c_x, cs_x, own_x, ex_x, es_x, q_x, b_x, g_x, l_x, r_x⟩ := hX3.open ((by omega))
      have z_x : ∀ h2 : i_x < cs_x.length, cs_x[i_x] = _ := fun h2 => r_x 0 ((by omega)) h2
      have hin := (g.learn (List.getElem_mem hlt2)).1
      have hsn : leastO (c s) ((itemsN (outerN (fam xs) n s)).take (j + 1)) none = lessO (c s) (leastO (c s) ((itemsN (outerN (fam xs) n s)).take j) none) (itemsN (outerN (fam xs) n s))[j] := by rw [List.take_succ_eq_append_getElem hlt2]; exact leastO_snoc _ _ _ _
      try simp (disch := first | omega | (simp; done) | fail) [wrap64c, if_pos, if_neg, opAnd, opOr, opXor, opDiff, opShr, opBit, g_h0, hf1, g1, e1, e2, e5, e6, e7, g1', hneb, hs2, h7, hL, hgt, e8, e9, e23, e24, e25, hlt2, q_x, g_x, l_x, r_x, z_x]
      refine callG_f (fst := fst) (cap := cap) (by simp) (by simp) ?hf ?hk ?ha (hp h2 s (itemsN (outerN (fam xs) n s))[j] K2 hs128 hin) ?_
      (case hf => simp (disch := first | omega | (simp; done) | fail) [wrap64c, if_pos, if_neg, opAnd, opOr, opXor, opDiff, opShr, opBit, g_h0, hf1, g1, e1, e2, e5, e6, e7, g1', hneb, hs2, h7, hL, hgt, e8, e9, e23, e24, e25, hlt2, q_x, g_x, l_x, r_x, z_x]; try rfl)
      (case hk => simp (disch := first | omega | (simp; done) | fail) [wrap64c, if_pos, if_neg, opAnd, opOr, opXor, opDiff, opShr, opBit, g_h0, hf1, g1, e1, e2, e5, e6, e7, g1', hneb, hs2, h7, hL, hgt, e8, e9, e23, e24, e25, hlt2, q_x, g_x, l_x, r_x, z_x])
      (case ha => simp (disch := first | omega | (simp; done) | fail) [wrap64c, if_pos, if_neg, opAnd, opOr, opXor, opDiff, opShr, opBit, g_h0, hf1, g1, e1, e2, e5, e6, e7, g1', hneb, hs2, h7, hL, hgt, e8, e9, e23, e24, e25, hlt2, q_x, g_x, l_x, r_x, z_x])
      rcases ho : leastO (c s) ((itemsN (outerN (fam xs) n s)).take j) none with _ | b'
      · rw [ho] at hsn
        have hq1 : optI none = -1 := rfl
        try simp (disch := first | omega | (simp; done) | fail) [wrap64c, if_pos, if_neg, opAnd, opOr, opXor, opDiff, opShr, opBit, g_h0, hf1, g1, e1, e2, e5, e6, e7, g1', hneb, hs2, h7, hL, hgt, e8, e9, e23, e24, e25, hlt2, q_x, g_x, l_x, r_x, z_x, ho, hq1]
        refine loopK_next _ ?hm ?hf ⟨j + 1, rfl, rfl, (by simp [hsn, lessO, optI]), (by simp [hsn, lessO, optC]), (by simp (disch := first | omega | (simp; done) | fail) [wrap64c, if_pos, if_neg, opAnd, opOr, opXor, opDiff, opShr, opBit, g_h0, hf1, g1, e1, e2, e5, e6, e7, g1', hneb, hs2, h7, hL, hgt, e8, e9, e23, e24, e25, hlt2, q_x, g_x, l_x, r_x, z_x] <;> omega), (by first | omega | assumption | (simp (disch := first | omega | (simp; done) | fail) [wrap64c, if_pos, if_neg, opAnd, opOr, opXor, opDiff, opShr, opBit, g_h0, hf1, g1, e1, e2, e5, e6, e7, g1', hneb, hs2, h7, hL, hgt, e8, e9, e23, e24, e25, hlt2, q_x, g_x, l_x, r_x, z_x] <;> omega))⟩
        (case hm => first | omega | (simp; omega))
        (case hf => simp [FrameL, g_h0, hf1, g1, e1, e2, e5, e6, e7, g1', hneb, hs2, h7, hL, hgt, e8, e9, e23, e24, e25, hlt2, q_x, g_x, l_x, r_x, z_x, f1_1, f2_1, f5_1, f6_1, f7_1, f23_1, f24_1])
      · rw [ho] at hsn
        have hq1 : optI (some b') = (b' : Int) := rfl
        have hq2 : optC (c s) (some b') = c s b' := rfl
        have hq3 : ¬ (b' : Int) < 0 := by omega
        by_cases hcb : c s (itemsN (outerN (fam xs) n s))[j] < c s b'
        · try simp (disch := first | omega | (simp; done) | fail) [wrap64c, if_pos, if_neg, opAnd, opOr, opXor, opDiff, opShr, opBit, g_h0, hf1, g1, e1, e2, e5, e6, e7, g1', hneb, hs2, h7, hL, hgt, e8, e9, e23, e24, e25, hlt2, q_x, g_x, l_x, r_x, z_x, ho, hq1, hq2, hq3, hcb]
          refine loopK_next _ ?hm ?hf ⟨j + 1, rfl, rfl, (by simp [hsn, lessO, optI, hcb]), (by simp [hsn, lessO, optC, hcb]), (by simp (disch := first | omega | (simp; done) | fail) [wrap64c, if_pos, if_neg, opAnd, opOr, opXor, opDiff, opShr, opBit, g_h0, hf1, g1, e1, e2, e5, e6, e7, g1', hneb, hs2, h7, hL, hgt, e8, e9, e23, e24, e25, hlt2, q_x, g_x, l_x, r_x, z_x] <;> omega), (by first | omega | assumption | (simp (disch := first | omega | (simp; done) | fail) [wrap64c, if_pos, if_neg, opAnd, opOr, opXor, opDiff, opShr, opBit, g_h0, hf1, g1, e1, e2, e5, e6, e7, g1', hneb, hs2, h7, hL, hgt, e8, e9, e23, e24, e25, hlt2, q_x, g_x, l_x, r_x, z_x] <;> omega))⟩
          (case hm => first | omega | (simp; omega))
          (case hf => simp [FrameL, g_h0, hf1, g1, e1, e2, e5, e6, e7, g1', hneb, hs2, h7, hL, hgt, e8, e9, e23, e24, e25, hlt2, q_x, g_x, l_x, r_x, z_x, f1_1, f2_1, f5_1, f6_1, f7_1, f23_1, f24_1])
        · try simp (disch := first | omega | (simp; done) | fail) [wrap64c, if_pos, if_neg, opAnd, opOr, opXor, opDiff, opShr, opBit, g_h0, hf1, g1, e1, e2, e5, e6, e7, g1', hneb, hs2, h7, hL, hgt, e8, e9, e23, e24, e25, hlt2, q_x, g_x, l_x, r_x, z_x, ho, hq1, hq2, hq3, hcb]
          refine loopK_next _ ?hm ?hf ⟨j + 1, rfl, rfl, (by simp [hsn, lessO, optI, hcb, e8, ho]), (by simp [hsn, lessO, optC, hcb, e9, ho]), (by simp (disch := first | omega | (simp; done) | fail) [wrap64c, if_pos, if_neg, opAnd, opOr, opXor, opDiff, opShr, opBit, g_h0, hf1, g1, e1, e2, e5, e6, e7, g1', hneb, hs2, h7, hL, hgt, e8, e9, e23, e24, e25, hlt2, q_x, g_x, l_x, r_x, z_x] <;> omega), (by first | omega | assumption | (simp (disch := first | omega | (simp; done) | fail) [wrap64c, if_pos, if_neg, opAnd, opOr, opXor, opDiff, opShr, opBit, g_h0, hf1, g1, e1, e2, e5, e6, e7, g1', hneb, hs2, h7, hL, hgt, e8, e9, e23, e24, e25, hlt2, q_x, g_x, l_x, r_x, z_x] <;> omega))⟩
          (case hm => first | omega | (simp; omega))
          (case hf => simp [FrameL, g_h0, hf1, g1, e1, e2, e5, e6, e7, g1', hneb, hs2, h7, hL, hgt, e8, e9, e23, e24, e25, hlt2, q_x, g_x, l_x, r_x, z_x, f1_1, f2_1, f5_1, f6_1, f7_1, f23_1, f24_1])
    · rw [List.take_of_length_le (by omega), hlo] at e8
      have hq1 : optI (some (nextG c (fam xs) n s)) = ((nextG c (fam xs) n s : Nat) : Int) := rfl
      try simp (disch := first | omega | (simp; done) | fail) [wrap64c, if_pos, if_neg, opAnd, opOr, opXor, opDiff, opShr, opBit, g_h0, hf1, g1, e1, e2, e5, e6, e7, g1', hneb, hs2, h7, hL, hgt, e8, e9, e23, e24, e25, hlt2, hq1]
      refine WD_chainC rfl (by kernel_rfl) (by kernel_rfl) ?_
      try simp (disch := first | omega | (simp; done) | fail) [wrap64c, if_pos, if_neg, opAnd, opOr, opXor, opDiff, opShr, opBit, g_h0, hf1, g1, e1, e2, e5, e6, e7, g1', hneb, hs2, h7, hL, hgt, e8, e9, e23, e24, e25, hlt2, hq1]
      obtain ⟨u3, h3, hap, hu3, ha3, hn4, hs3⟩ := appI2 hu2 ((nextG c (fam xs) n s : Nat) : Int) (by simp [hlu]; omega) (by omega) (ha.trans ha2) (Nat.le_refl _)
      try simp (disch := first | omega | (simp; done) | fail) [wrap64c, if_pos, if_neg, opAnd, opOr, opXor, opDiff, opShr, opBit, g_h0, hf1, g1, e1, e2, e5, e6, e7, g1', hneb, hs2, h7, hL, hgt, e8, e9, e23, e24, e25, hlt2, hq1, hap]
      refine loopK_next _ ?hm ?hf ⟨k + 1, u3, rfl, (by simp (disch := first | omega | (simp; done) | fail) [wrap64c, if_pos, if_neg, opAnd, opOr, opXor, opDiff, opShr, opBit, g_h0, hf1, g1, e1, e2, e5, e6, e7, g1', hneb, hs2, h7, hL, hgt, e8, e9, e23, e24, e25, hlt2, hq1] <;> omega), (by simp [greedS, ← hs]), (by first | omega | assumption | (simp (disch := first | omega | (simp; done) | fail) [wrap64c, if_pos, if_neg, opAnd, opOr, opXor, opDiff, opShr, opBit, g_h0, hf1, g1, e1, e2, e5, e6, e7, g1', hneb, hs2, h7, hL, hgt, e8, e9, e23, e24, e25, hlt2, hq1] <;> omega)), ha3, (by simp only [greedS, ← hs]; rw [toN_snoc]; exact hu3)⟩
      (case hm => first | omega | (simp; omega))
      (case hf => simp [FrameL, g_h0, hf1, g1, e1, e2, e5, e6, e7, g1', hneb, hs2, h7, hL, hgt, e8, e9, e23, e24, e25, hlt2, hq1, f1_0, f2_0, f5_0])
  · have hke : k = n := by omega
    have hee := (greed_end g c hk).2 hke
    have hneb : ((((greedS c (fam xs) n k).2 : Nat) : Int) != ((bit n - 1 : Nat) : Int)) = false := by simp [hee]
    try simp (disch := first | omega | (simp; done) | fail) [wrap64c, if_pos, if_neg, opAnd, opOr, opXor, opDiff, opShr, opBit, g_h0, hf1, g1, e1, e2, e5, e6, e7, g1', hneb]
    refine done_ret rfl ⟨A1.trans ha, ?_⟩
    rw [hke] at hu
    exact (hu.own (by simp [greed_len]; omega)).sub fun o ho => ⟨by have := ho.1; omega, ho.2⟩
end Go.Proofs.Ytnncipcldbopgaa
namespace Go.Proofs.Ytnncipcldbopgaa
set_option linter.unusedSimpArgs false
set_option linter.unusedVariables false
set_option maxHeartbeats 4000000
open Go Go.Eng
attribute [local irreducible] WD RunD PreD Runs CallOK
theorem jobsB_ok {L : List Job} {N : Int} (h : jobsB L N = true) : (L.length : Int) = N ∧ JobsOK L := by
  obtain ⟨h1, h2, h3⟩ := jobsB_true h
  obtain ⟨n, rfl, a, b⟩ := sizeB_true h1
  exact ⟨h2, by omega, h3⟩
theorem together_ok (h : Hp) (v w : Value) (N : Int) (X : List Int) (L : List Job) (hv : Space h v N X) (hw : Jobs h w L) (hl : X.length < 2 ^ 40) : CallOK Try.prog 177 #[v, w] h (.bool (spB N X && jobsB L N)) h := by
  refine callY_P 13 _ [.tmp 4] Try.func177 rfl rfl rfl (by first | rfl | simp) ?_
  obtain ⟨b, rfl, hX⟩ := hv
  obtain ⟨s, c, hform, hlc, hcc⟩ := hw.form
  refine WD_first ?_
  try simp (disch := first | omega | (simp; done) | fail) [wrap64c, if_pos, if_neg, opAnd, opOr, opXor, opDiff, opShr, opBit]
  refine stopK_heap fun h0 q_h0 => ?_
  refine stopK_go ?_
  have g_h0 : h0.get h.next = .cells [.int .i64 N, b] true true 1 := by simp [q_h0]
  have k_h0 : Adds h h0 := by rw [q_h0]; exact (by first | exact aK | exact kK)
  have n_h0 : h.next < h0.next := by simp [q_h0]; try omega
  have hX0 := hX.keep k_h0.1
  have hw0 := hw.keep k_h0.1
  have K0 := k_h0.1
  try simp (disch := first | omega | (simp; done) | fail) [wrap64c, if_pos, if_neg, opAnd, opOr, opXor, opDiff, opShr, opBit, g_h0]
  refine callG_c (by simp) (by simp) ?ha (isSpace_ok h0 (.agg #[.int .i64 N, b]) N X (.mk hX0) hl) ?_
  (case ha => simp (disch := first | omega | (simp; done) | fail) [wrap64c, if_pos, if_neg, opAnd, opOr, opXor, opDiff, opShr, opBit, g_h0])
  cases c1 : spB N X
  · try simp (disch := first | omega | (simp; done) | fail) [wrap64c, if_pos, if_neg, opAnd, opOr, opXor, opDiff, opShr, opBit, g_h0, c1]
    exact done_ret rfl (by simp [c1, K0])
  · try simp (disch := first | omega | (simp; done) | fail) [wrap64c, if_pos, if_neg, opAnd, opOr, opXor, opDiff, opShr, opBit, g_h0, c1]
    refine callG_c (by simp) (by simp) ?ha (areTasks_ok h0 w L N hw0) ?_
    (case ha => simp (disch := first | omega | (simp; done) | fail) [wrap64c, if_pos, if_neg, opAnd, opOr, opXor, opDiff, opShr, opBit, g_h0, c1])
    try simp (disch := first | omega | (simp; done) | fail) [wrap64c, if_pos, if_neg, opAnd, opOr, opXor, opDiff, opShr, opBit, g_h0, c1]
    exact done_ret rfl (by simp [c1, K0])
theorem bestClo_ok (h : Hp) (o : Nat) (v : Value) (L : List Job) (s i : Nat) (hg : h.get o = .cells [v] true true 1) (hv : Jobs h v L) (g : JobsOK L) (hs : s < 128) (hi : i < L.length) :
    CallOK Try.prog 243 #[.int .i64 (s : Int), .int .i64 (i : Int), .pointer (some ⟨o, 0, none⟩)] h (.int .i64 (costN L s i)) h := by
  refine callY_P 10 _ [.tmp 5] Try.func243 rfl rfl rfl (by first | rfl | simp) ?_
  have hg1 := hg
  try simp (disch := first | omega | (simp; done) | fail) [wrap64c, if_pos, if_neg, opAnd, opOr, opXor, opDiff, opShr, opBit, hg1]
  refine callG_c (by simp) (by simp) ?ha (cost_ok h v L s i hv g hs hi) ?_
  (case ha => simp (disch := first | omega | (simp; done) | fail) [wrap64c, if_pos, if_neg, opAnd, opOr, opXor, opDiff, opShr, opBit, hg1])
  try simp (disch := first | omega | (simp; done) | fail) [wrap64c, if_pos, if_neg, opAnd, opOr, opXor, opDiff, opShr, opBit, hg1]
  exact done_ret rfl (by simp)
theorem best_ok (h : Hp) (v w : Value) (n : Nat) (xs : List Nat) (L : List Job) (hv : Space h v n (toN xs)) (hw : Jobs h w L) (g : SpGood n xs) (gj : JobsOK L) (hn : L.length = n) :
    ∃ v' h', CallOK Try.prog 188 #[v, w] h v' h' ∧ Adds h h' ∧ IntsO (Btw h.next h'.next) h' v' (toN (greedN (costN L) xs n)) := by
  refine callY_L (args := [v, w]) 8 _ [.tmp 4] Try.func188 rfl rfl rfl ?_
  obtain ⟨b, rfl, hX⟩ := hv
  have ntw := hw.nt
  have csw := hw.cs
  refine WD_first ?_
  try simp (disch := first | omega | (simp; done) | fail) [wrap64c, if_pos, if_neg, opAnd, opOr, opXor, opDiff, opShr, opBit, ntw, csw]
  refine stopK_heap fun h0 q_h0 => ?_
  refine stopK_go ?_
  have k0 : Adds h h0 := by rw [q_h0]; exact (by first | exact aK | exact kK)
  have n0 : h0.next = h.next + 2 := by simp [q_h0]
  have g0 : h0.get h.next = .cells [.int .i64 n, b] true true 1 := by simp [q_h0]
  have g1 : h0.get (h.next + 1) = .cells [w] true true 1 := by simp [q_h0]
  try simp (disch := first | omega | (simp; done) | fail) [wrap64c, if_pos, if_neg, opAnd, opOr, opXor, opDiff, opShr, opBit, ntw, csw, g0, g1]
  obtain ⟨u, h1, hc1, ha1, hi1⟩ := greedy_ok h0 (.agg #[.int .i64 n, b]) n xs (costN L) 243 #[] #[.pointer (some ⟨h.next + 1, 0, none⟩)] (.mk (hX.keep k0.1)) g (by simp) (fun h' s i hk hs hi => by
    refine bestClo_ok h' (h.next + 1) w L s i ?_ ((hw.keep k0.1).keep hk) gj hs (by omega)
    rw [hk.2 _ (by omega)]; exact g1)
  refine callG_c (by simp) (by simp) ?ha (hc1) ?_
  (case ha => simp (disch := first | omega | (simp; done) | fail) [wrap64c, if_pos, if_neg, opAnd, opOr, opXor, opDiff, opShr, opBit, ntw, csw, g0, g1])
  try simp (disch := first | omega | (simp; done) | fail) [wrap64c, if_pos, if_neg, opAnd, opOr, opXor, opDiff, opShr, opBit, ntw, csw, g0, g1]
  exact done_ret rfl ⟨k0.trans ha1, hi1.sub fun o ho => ⟨by have := ho.1; omega, ho.2⟩⟩
def setW : List Nat → Nat → Nat
  | [], s => s
  | i :: l, s => setW l (nOr s (bit i))
theorem setW_snoc (a : Nat) : ∀ (l : List Nat) (s : Nat), setW (l ++ [a]) s = nOr (setW l s) (bit a)
  | [], s => rfl
  | i :: l, s => by simp only [List.cons_append, setW, setW_snoc a l]
theorem setW_lt : ∀ (l : List Nat) (s : Nat), s < 128 → (∀ i ∈ l, i < 7) → setW l s < 128
  | [], s, h, _ => h
  | i :: l, s, h, hl => by
    rw [setW]
    have h1 := bit_lt7 (hl i (by simp))
    exact setW_lt l _ (nOr128 h (by omega)) fun j hj => hl j (by simp [hj])
def topW (c : Nat → Nat → Int) : List Nat → Nat → Int → Int
  | [], _, m => m
  | i :: l, s, m => topW c l (nOr s (bit i)) (if m < c s i then c s i else m)
theorem topW_snoc (c : Nat → Nat → Int) (a : Nat) : ∀ (l : List Nat) (s : Nat) (m : Int), topW c (l ++ [a]) s m = if topW c l s m < c (setW l s) a then c (setW l s) a else topW c l s m
  | [], s, m => rfl
  | i :: l, s, m => by rw [List.cons_append, topW, topW_snoc c a l, topW, setW]
def costW (c : Nat → Nat → Int) (W : List Nat) (j : Nat) : Int := c (setW (W.take j) 0) (W.getD j 0)
def topN (c : Nat → Nat → Int) (W : List Nat) : Int := topW c W 0 (-10000)
theorem topW_take (c : Nat → Nat → Int) {W : List Nat} {j : Nat} (hj : j < W.length) : topW c (W.take (j + 1)) 0 (-10000) = if topW c (W.take j) 0 (-10000) < costW c W j then costW c W j else topW c (W.take j) 0 (-10000) := by
  rw [List.take_succ_eq_append_getElem hj, topW_snoc]
  simp [costW, hj]
theorem setW_take {W : List Nat} {j : Nat} (hj : j < W.length) : setW (W.take (j + 1)) 0 = nOr (setW (W.take j) 0) (bit (W.getD j 0)) := by
  rw [List.take_succ_eq_append_getElem hj, setW_snoc]
  simp [hj]
theorem topW_hit (c : Nat → Nat → Int) (W : List Nat) (hc : ∀ j, j < W.length → -10000 < costW c W j) : ∀ j, j ≤ W.length → 0 < j → ∃ i, i < j ∧ costW c W i = topW c (W.take j) 0 (-10000)
  | 0, _, h => by omega
  | j + 1, h, _ => by
    rw [topW_take c (by omega)]
    by_cases hlt : topW c (W.take j) 0 (-10000) < costW c W j
    · rw [if_pos hlt]; exact ⟨j, by omega, rfl⟩
    · rw [if_neg hlt]
      by_cases h0 : j = 0
      · subst h0
        exact absurd (hc 0 (by omega)) (by simpa [topW] using hlt)
      · obtain ⟨i, hi, e⟩ := topW_hit c W hc j (by omega) (by omega)
        exact ⟨i, by omega, e⟩
def critJ (c : Nat → Nat → Int) (W : List Nat) : Nat := (List.range W.length).findIdx fun j => costW c W j == topN c W
theorem critJ_ok (c : Nat → Nat → Int) (W : List Nat) (hc : ∀ j, j < W.length → -10000 < costW c W j) (h0 : 0 < W.length) : critJ c W < W.length ∧ costW c W (critJ c W) = topN c W ∧ ∀ i, i < critJ c W → costW c W i ≠ topN c W := by
  obtain ⟨i, hi, e⟩ := topW_hit c W hc W.length (Nat.le_refl _) h0
  rw [List.take_length] at e
  have hlt : critJ c W < (List.range W.length).length := List.findIdx_lt_length_of_exists ⟨i, by simpa using hi, by simpa [topN] using e⟩
  have h1 : (fun j => costW c W j == topN c W) ((List.range W.length)[critJ c W]'hlt) = true := List.findIdx_getElem (w := hlt)
  rw [List.getElem_range] at h1
  refine ⟨by simpa using hlt, by simpa using h1, fun k hk => ?_⟩
  have h2 := List.not_of_lt_findIdx hk
  simpa using h2
theorem greed_lt {n : Nat} {xs : List Nat} (g : SpGood n xs) (c : Nat → Nat → Int) : ∀ k, k ≤ n → ∀ i ∈ (greedS c (fam xs) n k).1, i < n
  | 0, _, i, h => by simp [greedS] at h
  | k + 1, hk, i, h => by
    rw [greedS] at h
    rcases List.mem_append.1 h with h | h
    · exact greed_lt g c k (by omega) i h
    · have := (nextG_mem c (greed_ne g c (show k < n by omega))).2
      have h2 := (g.learn this).1
      simp at h
      omega
theorem costOf_ok (h : Hp) (v w : Value) (L : List Job) (W : List Nat) (hv : Jobs h v L) (hw : Ints h w (toN W)) (g : JobsOK L) (hW : ∀ i ∈ W, i < L.length) (hl : W.length ≤ 7) (h0 : 0 < W.length) :
    CallOK Try.prog 187 #[v, w] h (.int .i64 (topN (costN L) W)) h := by
  refine callY_P 35 _ [.tmp 4] Try.func187 rfl rfl rfl (by first | rfl | simp) ?_
  have hL := hw.lenD
  have hgt := toN_get W
  have hln := toN_length W
  have n7 := g.n7
  try simp (disch := first | omega | (simp; done) | fail) [wrap64c, if_pos, if_neg, opAnd, opOr, opXor, opDiff, opShr, opBit, hL, hgt]
  refine WD_loopC [0, 10, 11] (fun m tm h' => ∃ j, m = W.length - j ∧ h = h' ∧ tm 5 = .int .i64 (if j = 0 then 0 else topW (costN L) (W.take j) 0 (-10000)) ∧ tm 6 = .int .i64 ((setW (W.take j) 0 : Nat) : Int) ∧ tm 12 = .int .i64 (j : Int) ∧ (j ≤ W.length)) _ ⟨0, rfl, rfl, (by simp), (by simp [setW]), (by simp (disch := first | omega | (simp; done) | fail) [wrap64c, if_pos, if_neg, opAnd, opOr, opXor, opDiff, opShr, opBit, hL, hgt]), (by first | omega | assumption | (simp (disch := first | omega | (simp; done) | fail) [wrap64c, if_pos, if_neg, opAnd, opOr, opXor, opDiff, opShr, opBit, hL, hgt] <;> omega))⟩ ?_
  rintro m tm h' hFr ⟨j, rfl, rfl, e5, e6, e12, hj⟩
  simp only [FrameL] at hFr
  obtain ⟨f0_0, f10_0, f11_0, -⟩ := hFr
  try simp (disch := first | omega | (simp; done) | fail) [wrap64c, if_pos, if_neg, opAnd, opOr, opXor, opDiff, opShr, opBit, hL, hgt] at f0_0 f10_0 f11_0
  have e0 := f0_0
  have e10 := f10_0
  have e11 := f11_0
  by_cases hlt : j < W.length
  · have hi := hW _ (List.getElem_mem hlt)
    have hss := setW_lt (W.take j) 0 (by omega) (fun i hi => by have := hW i (List.mem_of_mem_take hi); omega)
    have hp64 := bit_lt7 (i := W[j]) (by omega)
    have hor := nOr128 (b := bit W[j]) hss (by omega)
    have hcl := costN_le g (setW (W.take j) 0) hi
    have hs1 : setW (W.take (j + 1)) 0 = nOr (setW (W.take j) 0) (bit W[j]) := by rw [setW_take hlt]; simp [hlt]
    have ht1 : topW (costN L) (W.take (j + 1)) 0 (-10000) = if topW (costN L) (W.take j) 0 (-10000) < costN L (setW (W.take j) 0) W[j] then costN L (setW (W.take j) 0) W[j] else topW (costN L) (W.take j) 0 (-10000) := by rw [topW_take _ hlt]; simp [costW, hlt]
    obtain ⟨o_x, i_x, c_x, cs_x, own_x, ex_x, es_x, q_x, b_x, g_x, l_x, r_x⟩ := hw.open ((by omega))
    have z_x : ∀ h2 : i_x < cs_x.length, cs_x[i_x] = _ := fun h2 => r_x 0 ((by omega)) h2
    try simp (disch := first | omega | (simp; done) | fail) [wrap64c, if_pos, if_neg, opAnd, opOr, opXor, opDiff, opShr, opBit, hL, hgt, e0, e5, e6, e10, e11, e12, hlt, q_x, g_x, l_x, r_x, z_x]
    refine callG_c (by simp) (by simp) ?ha (cost_ok h v L (setW (W.take j) 0) W[j] hv g hss hi) ?_
    (case ha => simp (disch := first | omega | (simp; done) | fail) [wrap64c, if_pos, if_neg, opAnd, opOr, opXor, opDiff, opShr, opBit, hL, hgt, e0, e5, e6, e10, e11, e12, hlt, q_x, g_x, l_x, r_x, z_x])
    by_cases hj0 : j = 0
    · have hb : ((j : Int) == 0) = true := by simp [hj0]
      have e0 : topW (costN L) (W.take j) 0 (-10000) = -10000 := by rw [hj0]; rfl
      rw [e0, if_pos (by omega)] at ht1
      try simp (disch := first | omega | (simp; done) | fail) [wrap64c, if_pos, if_neg, opAnd, opOr, opXor, opDiff, opShr, opBit, hL, hgt, e0, e5, e6, e10, e11, e12, hlt, q_x, g_x, l_x, r_x, z_x, hb]
      refine loopK_next _ ?hm ?hf ⟨j + 1, rfl, rfl, (by simp [ht1]), (by simp [hs1]), (by simp (disch := first | omega | (simp; done) | fail) [wrap64c, if_pos, if_neg, opAnd, opOr, opXor, opDiff, opShr, opBit, hL, hgt, e0, e5, e6, e10, e11, e12, hlt, q_x, g_x, l_x, r_x, z_x] <;> omega), (by first | omega | assumption | (simp (disch := first | omega | (simp; done) | fail) [wrap64c, if_pos, if_neg, opAnd, opOr, opXor, opDiff, opShr, opBit, hL, hgt, e0, e5, e6, e10, e11, e12, hlt, q_x, g_x, l_x, r_x, z_x] <;> omega))⟩
      (case hm => first | omega | (simp; omega))
      (case hf => simp [FrameL, hL, hgt, e0, e5, e6, e10, e11, e12, hlt, q_x, g_x, l_x, r_x, z_x, f0_0, f10_0, f11_0])
    · have hb : ((j : Int) == 0) = false := by simp [hj0]
      have hq : (if j = 0 then (0 : Int) else topW (costN L) (W.take j) 0 (-10000)) = topW (costN L) (W.take j) 0 (-10000) := if_neg hj0
      rw [hq] at e5
      by_cases hgt2 : topW (costN L) (W.take j) 0 (-10000) < costN L (setW (W.take j) 0) W[j]
      · rw [if_pos hgt2] at ht1
        try simp (disch := first | omega | (simp; done) | fail) [wrap64c, if_pos, if_neg, opAnd, opOr, opXor, opDiff, opShr, opBit, hL, hgt, e0, e5, e6, e10, e11, e12, hlt, q_x, g_x, l_x, r_x, z_x, hb, hgt2]
        refine loopK_next _ ?hm ?hf ⟨j + 1, rfl, rfl, (by simp [ht1]), (by simp [hs1]), (by simp (disch := first | omega | (simp; done) | fail) [wrap64c, if_pos, if_neg, opAnd, opOr, opXor, opDiff, opShr, opBit, hL, hgt, e0, e5, e6, e10, e11, e12, hlt, q_x, g_x, l_x, r_x, z_x] <;> omega), (by first | omega | assumption | (simp (disch := first | omega | (simp; done) | fail) [wrap64c, if_pos, if_neg, opAnd, opOr, opXor, opDiff, opShr, opBit, hL, hgt, e0, e5, e6, e10, e11, e12, hlt, q_x, g_x, l_x, r_x, z_x] <;> omega))⟩
        (case hm => first | omega | (simp; omega))
        (case hf => simp [FrameL, hL, hgt, e0, e5, e6, e10, e11, e12, hlt, q_x, g_x, l_x, r_x, z_x, f0_0, f10_0, f11_0])
      · rw [if_neg hgt2] at ht1
        try simp (disch := first | omega | (simp; done) | fail) [wrap64c, if_pos, if_neg, opAnd, opOr, opXor, opDiff, opShr, opBit, hL, hgt, e0, e5, e6, e10, e11, e12, hlt, q_x, g_x, l_x, r_x, z_x, hb, hgt2]
        refine loopK_next _ ?hm ?hf ⟨j + 1, rfl, rfl, (by simp [ht1, e5]), (by simp [hs1]), (by simp (disch := first | omega | (simp; done) | fail) [wrap64c, if_pos, if_neg, opAnd, opOr, opXor, opDiff, opShr, opBit, hL, hgt, e0, e5, e6, e10, e11, e12, hlt, q_x, g_x, l_x, r_x, z_x] <;> omega), (by first | omega | assumption | (simp (disch := first | omega | (simp; done) | fail) [wrap64c, if_pos, if_neg, opAnd, opOr, opXor, opDiff, opShr, opBit, hL, hgt, e0, e5, e6, e10, e11, e12, hlt, q_x, g_x, l_x, r_x, z_x] <;> omega))⟩
        (case hm => first | omega | (simp; omega))
        (case hf => simp [FrameL, hL, hgt, e0, e5, e6, e10, e11, e12, hlt, q_x, g_x, l_x, r_x, z_x, f0_0, f10_0, f11_0])
  · have e : j = W.length := by omega
    have hj0 : ¬ j = 0 := by omega
    rw [if_neg hj0, List.take_of_length_le (by omega)] at e5
    try simp (disch := first | omega | (simp; done) | fail) [wrap64c, if_pos, if_neg, opAnd, opOr, opXor, opDiff, opShr, opBit, hL, hgt, e0, e5, e6, e10, e11, e12, hlt]
    exact done_ret rfl (by simp [topN])
end Go.Proofs.Ytnncipcldbopgaa
namespace Go.Proofs.Ytnncipcldbopgaa
set_option linter.unusedSimpArgs false
set_option linter.unusedVariables false
set_option maxHeartbeats 4000000
open Go Go.Eng
attribute [local irreducible] WD RunD PreD Runs CallOK
theorem greedN_costs {n : Nat} {xs : List Nat} {L : List Job} (g : SpGood n xs) (gj : JobsOK L) (hn : L.length = n) : (∀ i ∈ greedN (costN L) xs n, i < L.length) ∧ ∀ j, j < (greedN (costN L) xs n).length → -10000 < costW (costN L) (greedN (costN L) xs n) j := by
  have h1 : ∀ i ∈ greedN (costN L) xs n, i < L.length := fun i hi => by rw [hn]; exact greed_lt g _ n (Nat.le_refl _) i hi
  refine ⟨h1, fun j hj => ?_⟩
  have h2 := costN_le gj (setW ((greedN (costN L) xs n).take j) 0) (h1 _ (List.getElem_mem hj))
  have e : (greedN (costN L) xs n).getD j 0 = (greedN (costN L) xs n)[j] := by rw [List.getD_eq_getElem?_getD, List.getElem?_eq_getElem hj]; rfl
  rw [costW, e]
  omega
noncomputable def critI (N : Int) (X : List Int) (L : List Job) : Int := if (spB N X && jobsB L N) = true then (((greedN (costN L) (natsOf X) N.toNat).getD (critJ (costN L) (greedN (costN L) (natsOf X) N.toNat)) 0 : Nat) : Int) else 0
noncomputable def critS (N : Int) (X : List Int) (L : List Job) : Int := if (spB N X && jobsB L N) = true then ((setW ((greedN (costN L) (natsOf X) N.toNat).take (critJ (costN L) (greedN (costN L) (natsOf X) N.toNat))) 0 : Nat) : Int) else 0
noncomputable def bestC (N : Int) (X : List Int) (L : List Job) : Int := if (spB N X && jobsB L N) = true then topN (costN L) (greedN (costN L) (natsOf X) N.toNat) else 0
theorem grGreedy_ok (h : Hp) (v w : Value) (n : Nat) (xs : List Nat) (L : List Job) (hv : Space h v n (toN xs)) (hw : Jobs h w L) (g : SpGood n xs) (gj : JobsOK L) (hn : L.length = n) :
    ∃ v' h', CallOK Try.prog 202 #[v, w] h v' h' ∧ Adds h h' ∧ IntsO (Btw h.next h'.next) h' v' (toN (greedN (costN L) xs n)) := by
  refine callY_L (args := [v, w]) 52 _ [.tmp 4] Try.func202 rfl rfl rfl ?_
  obtain ⟨b, rfl, hX⟩ := hv
  have ntw := hw.nt
  have csw := hw.cs
  refine WD_first ?_
  try simp (disch := first | omega | (simp; done) | fail) [wrap64c, if_pos, if_neg, opAnd, opOr, opXor, opDiff, opShr, opBit, ntw, csw]
  refine stopK_heap fun h0 q_h0 => ?_
  refine stopK_go ?_
  have g_h0 : h0.get h.next = .cells [.int .i64 n, b] true true 1 := by simp [q_h0]
  have k_h0 : Adds h h0 := by rw [q_h0]; exact (by first | exact aK | exact kK)
  have n_h0 : h.next < h0.next := by simp [q_h0]; try omega
  have hX0 := hX.keep k_h0.1
  have hw0 := hw.keep k_h0.1
  have n7 := g.n7
  have hb7 := bit7 n7
  have hlx := g.len7
  try simp (disch := first | omega | (simp; done) | fail) [wrap64c, if_pos, if_neg, opAnd, opOr, opXor, opDiff, opShr, opBit, ntw, csw, g_h0]
  refine WD_loopC [1, 2] (fun m tm h' => ∃ k u, m = n - k ∧ tm 5 = u ∧ tm 6 = .int .i64 (((greedS (costN L) (fam xs) n k).2 : Nat) : Int) ∧ (k ≤ n) ∧ (Adds h h') ∧ (Adds h0 h') ∧ (IntsA h0.next h' u (toN (greedS (costN L) (fam xs) n k).1))) _ ⟨0, .slice none 0 0, rfl, (by simp (disch := first | omega | (simp; done) | fail) [wrap64c, if_pos, if_neg, opAnd, opOr, opXor, opDiff, opShr, opBit, ntw, csw, g_h0]), (by simp [greedS]), (by first | omega | assumption | (simp (disch := first | omega | (simp; done) | fail) [wrap64c, if_pos, if_neg, opAnd, opOr, opXor, opDiff, opShr, opBit, ntw, csw, g_h0] <;> omega)), (by first | exact aK | exact kK), (adds_self _), (by simp [greedS, toN]; exact IntsA.nil _ _)⟩ ?_
  rintro m tm h' hFr ⟨k, u, rfl, e5, e6, hk, ha, ha0, hu⟩
  simp only [FrameL] at hFr
  obtain ⟨f1_0, f2_0, -⟩ := hFr
  try simp (disch := first | omega | (simp; done) | fail) [wrap64c, if_pos, if_neg, opAnd, opOr, opXor, opDiff, opShr, opBit, ntw, csw, g_h0] at f1_0 f2_0
  have e1 := f1_0
  have e2 := f2_0
  rename Hp => hA
  have hlu := greed_len (costN L) (fam xs) n k
  have hlU := hu.lenD
  have hlu2 : (toN (greedS (costN L) (fam xs) n k).1).length = k := by rw [toN_length, hlu]
  have hn2 := ha0.1.1
  have g1' : hA.get h.next = .cells [.int .i64 n, b] true true 1 := by rw [ha0.1.2 _ (by omega)]; exact g_h0
  have hX2 := hX0.keep ha0.1
  have hw2 := hw0.keep ha0.1
  have hLw := hw2.lenD
  by_cases hlt : k < n
  · obtain ⟨hi1, hi2⟩ := greed_inv g (costN L) k hk
    have hs128 := g.lt7 _ hi1
    obtain ⟨s, hs⟩ : ∃ s, s = (greedS (costN L) (fam xs) n k).2 := ⟨_, rfl⟩
    have hout := outerN_lt (fam xs) n s
    have hwn := greed_ne g (costN L) hlt
    rw [← hs] at hwn hs128
    obtain ⟨hlo, hmem⟩ := nextG_mem (costN L) hwn
    obtain ⟨l1, l2, l3⟩ := g.learn hmem
    have hp64 := bit_lt7 (i := nextG (costN L) (fam xs) n s) (by omega)
    have hor := g.lt7 _ l3
    have hs2 := hs.symm
    try simp (disch := first | omega | (simp; done) | fail) [wrap64c, if_pos, if_neg, opAnd, opOr, opXor, opDiff, opShr, opBit, ntw, csw, g_h0, e1, e2, e5, e6, hlU, hlu2, g1', hLw, hlt, hs2]
    refine callG_c (by simp) (by simp) ?ha (spOuter_ok hA (.agg #[.int .i64 n, b]) n xs s (.mk hX2) n7 (by omega) g.srt hs128) ?_
    (case ha => simp (disch := first | omega | (simp; done) | fail) [wrap64c, if_pos, if_neg, opAnd, opOr, opXor, opDiff, opShr, opBit, ntw, csw, g_h0, e1, e2, e5, e6, hlU, hlu2, g1', hLw, hlt, hs2])
    try simp (disch := first | omega | (simp; done) | fail) [wrap64c, if_pos, if_neg, opAnd, opOr, opXor, opDiff, opShr, opBit, ntw, csw, g_h0, e1, e2, e5, e6, hlU, hlu2, g1', hLw, hlt, hs2]
    refine WD_loopC [1, 2, 5, 6, 8, 19] (fun m tm h' => ∃ j, m = n - j ∧ hA = h' ∧ tm 7 = .int .i64 (optI (leastO (costN L s) (itemsK (outerN (fam xs) n s) j) none)) ∧ tm 20 = .int .i64 (j : Int) ∧ (j ≤ n)) _ ⟨0, rfl, rfl, (by simp [itemsK, leastO, optI]), (by simp (disch := first | omega | (simp; done) | fail) [wrap64c, if_pos, if_neg, opAnd, opOr, opXor, opDiff, opShr, opBit, ntw, csw, g_h0, e1, e2, e5, e6, hlU, hlu2, g1', hLw, hlt, hs2]), (by first | omega | assumption | (simp (disch := first | omega | (simp; done) | fail) [wrap64c, if_pos, if_neg, opAnd, opOr, opXor, opDiff, opShr, opBit, ntw, csw, g_h0, e1, e2, e5, e6, hlU, hlu2, g1', hLw, hlt, hs2] <;> omega))⟩ ?_
    rintro m tm h' hFr ⟨j, rfl, rfl, e7, e20, hj⟩
    simp only [FrameL] at hFr
    obtain ⟨f1_1, f2_1, f5_1, f6_1, f8_1, f19_1, -⟩ := hFr
    try simp (disch := first | omega | (simp; done) | fail) [wrap64c, if_pos, if_neg, opAnd, opOr, opXor, opDiff, opShr, opBit, ntw, csw, g_h0, e1, e2, e5, e6, hlU, hlu2, g1', hLw, hlt, hs2] at f1_1 f2_1 f5_1 f6_1 f8_1 f19_1
    have e1 := f1_1
    have e2 := f2_1
    have e5 := f5_1
    have e6 := f6_1
    have e8 := f8_1
    have e19 := f19_1
    by_cases hlt2 : j < n
    · have hjL : j < L.length := by omega
      have hks := itemsK_succ (outerN (fam xs) n s) j
      try simp (disch := first | omega | (simp; done) | fail) [wrap64c, if_pos, if_neg, opAnd, opOr, opXor, opDiff, opShr, opBit, ntw, csw, g_h0, e1, e2, e5, e6, hlU, hlu2, g1', hLw, hlt, hs2, e7, e8, e19, e20, hlt2, hjL]
      refine callG_c (by simp) (by simp) ?ha (spIn_ok hA (outerN (fam xs) n s) j (by omega) (by omega)) ?_
      (case ha => simp (disch := first | omega | (simp; done) | fail) [wrap64c, if_pos, if_neg, opAnd, opOr, opXor, opDiff, opShr, opBit, ntw, csw, g_h0, e1, e2, e5, e6, hlU, hlu2, g1', hLw, hlt, hs2, e7, e8, e19, e20, hlt2, hjL])
      cases hb : (outerN (fam xs) n s).testBit j
      · rw [hb, if_neg (by simp)] at hks
        try simp (disch := first | omega | (simp; done) | fail) [wrap64c, if_pos, if_neg, opAnd, opOr, opXor, opDiff, opShr, opBit, ntw, csw, g_h0, e1, e2, e5, e6, hlU, hlu2, g1', hLw, hlt, hs2, e7, e8, e19, e20, hlt2, hjL, hb]
        refine loopK_next _ ?hm ?hf ⟨j + 1, rfl, rfl, (by simp [hks, e7]), (by simp (disch := first | omega | (simp; done) | fail) [wrap64c, if_pos, if_neg, opAnd, opOr, opXor, opDiff, opShr, opBit, ntw, csw, g_h0, e1, e2, e5, e6, hlU, hlu2, g1', hLw, hlt, hs2, e7, e8, e19, e20, hlt2, hjL, hb] <;> omega), (by first | omega | assumption | (simp (disch := first | omega | (simp; done) | fail) [wrap64c, if_pos, if_neg, opAnd, opOr, opXor, opDiff, opShr, opBit, ntw, csw, g_h0, e1, e2, e5, e6, hlU, hlu2, g1', hLw, hlt, hs2, e7, e8, e19, e20, hlt2, hjL, hb] <;> omega))⟩
        (case hm => first | omega | (simp; omega))
        (case hf => simp [FrameL, ntw, csw, g_h0, e1, e2, e5, e6, hlU, hlu2, g1', hLw, hlt, hs2, e7, e8, e19, e20, hlt2, hjL, hb, f1_1, f2_1, f5_1, f6_1, f8_1, f19_1])
      · rw [hb, if_pos rfl] at hks
        have hsn := leastO_snoc (costN L s) j (itemsK (outerN (fam xs) n s) j) none
        rw [← hks] at hsn
        rcases ho : leastO (costN L s) (itemsK (outerN (fam xs) n s) j) none with _ | b'
        · rw [ho] at hsn
          have hq1 : optI none = -1 := rfl
          try simp (disch := first | omega | (simp; done) | fail) [wrap64c, if_pos, if_neg, opAnd, opOr, opXor, opDiff, opShr, opBit, ntw, csw, g_h0, e1, e2, e5, e6, hlU, hlu2, g1', hLw, hlt, hs2, e7, e8, e19, e20, hlt2, hjL, hb, ho, hq1]
          refine loopK_next _ ?hm ?hf ⟨j + 1, rfl, rfl, (by simp [hsn, lessO, optI]), (by simp (disch := first | omega | (simp; done) | fail) [wrap64c, if_pos, if_neg, opAnd, opOr, opXor, opDiff, opShr, opBit, ntw, csw, g_h0, e1, e2, e5, e6, hlU, hlu2, g1', hLw, hlt, hs2, e7, e8, e19, e20, hlt2, hjL, hb] <;> omega), (by first | omega | assumption | (simp (disch := first | omega | (simp; done) | fail) [wrap64c, if_pos, if_neg, opAnd, opOr, opXor, opDiff, opShr, opBit, ntw, csw, g_h0, e1, e2, e5, e6, hlU, hlu2, g1', hLw, hlt, hs2, e7, e8, e19, e20, hlt2, hjL, hb] <;> omega))⟩
          (case hm => first | omega | (simp; omega))
          (case hf => simp [FrameL, ntw, csw, g_h0, e1, e2, e5, e6, hlU, hlu2, g1', hLw, hlt, hs2, e7, e8, e19, e20, hlt2, hjL, hb, f1_1, f2_1, f5_1, f6_1, f8_1, f19_1])
        · rw [ho] at hsn
          have hq1 : optI (some b') = (b' : Int) := rfl
          have hq3 : ¬ (b' : Int) < 0 := by omega
          have hbm := leastO_mem _ _ _ ho
          have hbL : b' < L.length := by
            have : b' < j := by simp only [itemsK, List.mem_filter, List.mem_range] at hbm; exact hbm.1
            omega
          try simp (disch := first | omega | (simp; done) | fail) [wrap64c, if_pos, if_neg, opAnd, opOr, opXor, opDiff, opShr, opBit, ntw, csw, g_h0, e1, e2, e5, e6, hlU, hlu2, g1', hLw, hlt, hs2, e7, e8, e19, e20, hlt2, hjL, hb, ho, hq1, hq3]
          refine callG_c (by simp) (by simp) ?ha (grCost_ok hA w L s j hw2 gj hs128 hjL) ?_
          (case ha => simp (disch := first | omega | (simp; done) | fail) [wrap64c, if_pos, if_neg, opAnd, opOr, opXor, opDiff, opShr, opBit, ntw, csw, g_h0, e1, e2, e5, e6, hlU, hlu2, g1', hLw, hlt, hs2, e7, e8, e19, e20, hlt2, hjL, hb, ho, hq1, hq3])
          try simp (disch := first | omega | (simp; done) | fail) [wrap64c, if_pos, if_neg, opAnd, opOr, opXor, opDiff, opShr, opBit, ntw, csw, g_h0, e1, e2, e5, e6, hlU, hlu2, g1', hLw, hlt, hs2, e7, e8, e19, e20, hlt2, hjL, hb, ho, hq1, hq3]
          refine callG_c (by simp) (by simp) ?ha (grCost_ok hA w L s b' hw2 gj hs128 hbL) ?_
          (case ha => simp (disch := first | omega | (simp; done) | fail) [wrap64c, if_pos, if_neg, opAnd, opOr, opXor, opDiff, opShr, opBit, ntw, csw, g_h0, e1, e2, e5, e6, hlU, hlu2, g1', hLw, hlt, hs2, e7, e8, e19, e20, hlt2, hjL, hb, ho, hq1, hq3])
          by_cases hcb : costN L s j < costN L s b'
          · try simp (disch := first | omega | (simp; done) | fail) [wrap64c, if_pos, if_neg, opAnd, opOr, opXor, opDiff, opShr, opBit, ntw, csw, g_h0, e1, e2, e5, e6, hlU, hlu2, g1', hLw, hlt, hs2, e7, e8, e19, e20, hlt2, hjL, hb, ho, hq1, hq3, hcb]
            refine loopK_next _ ?hm ?hf ⟨j + 1, rfl, rfl, (by simp [hsn, lessO, optI, hcb]), (by simp (disch := first | omega | (simp; done) | fail) [wrap64c, if_pos, if_neg, opAnd, opOr, opXor, opDiff, opShr, opBit, ntw, csw, g_h0, e1, e2, e5, e6, hlU, hlu2, g1', hLw, hlt, hs2, e7, e8, e19, e20, hlt2, hjL, hb] <;> omega), (by first | omega | assumption | (simp (disch := first | omega | (simp; done) | fail) [wrap64c, if_pos, if_neg, opAnd, opOr, opXor, opDiff, opShr, opBit, ntw, csw, g_h0, e1, e2, e5, e6, hlU, hlu2, g1', hLw, hlt, hs2, e7, e8, e19, e20, hlt2, hjL, hb] <;> omega))⟩
            (case hm => first | omega | (simp; omega))
            (case hf => simp [FrameL, ntw, csw, g_h0, e1, e2, e5, e6, hlU, hlu2, g1', hLw, hlt, hs2, e7, e8, e19, e20, hlt2, hjL, hb, f1_1, f2_1, f5_1, f6_1, f8_1, f19_1])
          · try simp (disch := first | omega | (simp; done) | fail) [wrap64c, if_pos, if_neg, opAnd, opOr, opXor, opDiff, opShr, opBit, ntw, csw, g_h0, e1, e2, e5, e6, hlU, hlu2, g1', hLw, hlt, hs2, e7, e8, e19, e20, hlt2, hjL, hb, ho, hq1, hq3, hcb]
            refine loopK_next _ ?hm ?hf ⟨j + 1, rfl, rfl, (by simp [hsn, lessO, optI, hcb, e7, ho]), (by simp (disch := first | omega | (simp; done) | fail) [wrap64c, if_pos, if_neg, opAnd, opOr, opXor, opDiff, opShr, opBit, ntw, csw, g_h0, e1, e2, e5, e6, hlU, hlu2, g1', hLw, hlt, hs2, e7, e8, e19, e20, hlt2, hjL, hb] <;> omega), (by first | omega | assumption | (simp (disch := first | omega | (simp; done) | fail) [wrap64c, if_pos, if_neg, opAnd, opOr, opXor, opDiff, opShr, opBit, ntw, csw, g_h0, e1, e2, e5, e6, hlU, hlu2, g1', hLw, hlt, hs2, e7, e8, e19, e20, hlt2, hjL, hb] <;> omega))⟩
            (case hm => first | omega | (simp; omega))
            (case hf => simp [FrameL, ntw, csw, g_h0, e1, e2, e5, e6, hlU, hlu2, g1', hLw, hlt, hs2, e7, e8, e19, e20, hlt2, hjL, hb, f1_1, f2_1, f5_1, f6_1, f8_1, f19_1])
    · rw [show j = n by omega, itemsK_eq hout n7, hlo] at e7
      have hq1 : optI (some (nextG (costN L) (fam xs) n s)) = ((nextG (costN L) (fam xs) n s : Nat) : Int) := rfl
      try simp (disch := first | omega | (simp; done) | fail) [wrap64c, if_pos, if_neg, opAnd, opOr, opXor, opDiff, opShr, opBit, ntw, csw, g_h0, e1, e2, e5, e6, hlU, hlu2, g1', hLw, hlt, hs2, e7, e8, e19, e20, hlt2, hq1]
      obtain ⟨u3, h3, hap, hu3, ha3, hn4, hs3⟩ := appI hu ((nextG (costN L) (fam xs) n s : Nat) : Int) (by rw [hlu2]; omega) (by omega) ha (by omega)
      have k3 : Adds h0 h3 := ⟨⟨by omega, fun o ho => (hs3 o (by omega) ho).trans (ha0.1.2 o ho)⟩, fun o h1 h2 => ha3.2 o (by omega) h2⟩
      try simp (disch := first | omega | (simp; done) | fail) [wrap64c, if_pos, if_neg, opAnd, opOr, opXor, opDiff, opShr, opBit, ntw, csw, g_h0, e1, e2, e5, e6, hlU, hlu2, g1', hLw, hlt, hs2, e7, e8, e19, e20, hlt2, hq1, hap]
      refine loopK_next _ ?hm ?hf ⟨k + 1, u3, rfl, (by simp (disch := first | omega | (simp; done) | fail) [wrap64c, if_pos, if_neg, opAnd, opOr, opXor, opDiff, opShr, opBit, ntw, csw, g_h0, e1, e2, e5, e6, hlU, hlu2, g1', hLw, hlt, hs2, e7, e8, e19, e20, hlt2, hq1] <;> omega), (by simp [greedS, ← hs]), (by first | omega | assumption | (simp (disch := first | omega | (simp; done) | fail) [wrap64c, if_pos, if_neg, opAnd, opOr, opXor, opDiff, opShr, opBit, ntw, csw, g_h0, e1, e2, e5, e6, hlU, hlu2, g1', hLw, hlt, hs2, e7, e8, e19, e20, hlt2, hq1] <;> omega)), ha3, k3, (by simp only [greedS, ← hs]; rw [toN_snoc]; exact hu3)⟩
      (case hm => first | omega | (simp; omega))
      (case hf => simp [FrameL, ntw, csw, g_h0, e1, e2, e5, e6, hlU, hlu2, g1', hLw, hlt, hs2, e7, e8, e19, e20, hlt2, hq1, f1_0, f2_0])
  · have hke : k = n := by omega
    try simp (disch := first | omega | (simp; done) | fail) [wrap64c, if_pos, if_neg, opAnd, opOr, opXor, opDiff, opShr, opBit, ntw, csw, g_h0, e1, e2, e5, e6, hlU, hlu2, g1', hLw, hlt]
    refine done_ret rfl ⟨ha, ?_⟩
    rw [hke] at hu
    exact (hu.own (by simp [greed_len]; omega)).sub fun o ho => ⟨by have := ho.1; omega, ho.2⟩
end Go.Proofs.Ytnncipcldbopgaa
namespace Go.Proofs.Ytnncipcldbopgaa
set_option linter.unusedSimpArgs false
set_option linter.unusedVariables false
open Go Go.Eng
def chF (M : Nat → Bool) (n : Nat) : Nat → Nat → List (List Nat)
  | 0, _ => [[]]
  | k + 1, s => (itemsN (outerN M n s)).flatMap fun i => (chF M n k (nOr s (bit i))).map (i :: ·)
theorem words_ch (M : Nat → Bool) (n : Nat) : ∀ (k : Nat) (w : List Nat) (s : Nat), wordsF M n k w s = (chF M n k s).map (w ++ ·)
  | 0, w, s => by simp [wordsF, chF]
  | k + 1, w, s => by
    simp only [wordsF, chF, List.map_flatMap, List.map_map]
    congr 1
    funext i
    rw [words_ch M n k]
    exact List.map_congr_left fun t _ => by simp
def okW (c : Nat → Nat → Int) (lim : Int) : List Nat → Nat → Bool
  | [], _ => true
  | i :: l, s => decide (c s i ≤ lim) && okW c lim l (nOr s (bit i))
def waysF (M : Nat → Bool) (n : Nat) (c : Nat → Nat → Int) (lim : Int) : Nat → Nat → Nat
  | 0, _ => 1
  | k + 1, s => ((itemsN (outerN M n s)).map fun i => if c s i ≤ lim then waysF M n c lim k (nOr s (bit i)) else 0).sum
theorem topW_le (c : Nat → Nat → Int) (lim : Int) : ∀ (l : List Nat) (s : Nat) (m : Int), topW c l s m ≤ lim ↔ m ≤ lim ∧ okW c lim l s = true
  | [], s, m => by simp [topW, okW]
  | i :: l, s, m => by
    rw [topW, topW_le c lim l, okW, Bool.and_eq_true, decide_eq_true_eq, ← and_assoc]
    refine and_congr_left fun _ => ?_
    split <;> omega
theorem leastO_min (c : Nat → Int) : ∀ (l : List Nat) (o : Option Nat) (b : Nat), leastO c l o = some b → (∀ i ∈ l, c b ≤ c i) ∧ ∀ a, o = some a → c b ≤ c a
  | [], o, b, h => ⟨(by simp), fun a e => by rw [leastO, e] at h; cases h; exact Int.le_refl _⟩
  | i :: l, o, b, h => by
    rw [leastO] at h
    obtain ⟨h1, h2⟩ := leastO_min c l _ b h
    have h3 : c b ≤ c i ∧ ∀ a, o = some a → c b ≤ c a := by
      cases o with
      | none => exact ⟨h2 i rfl, fun a e => by cases e⟩
      | some a =>
        simp only [lessO] at h2
        by_cases hc : c i < c a
        · rw [if_pos hc] at h2
          have := h2 i rfl
          exact ⟨this, fun a' e => by cases e; omega⟩
        · rw [if_neg hc] at h2
          have := h2 a rfl
          exact ⟨by omega, fun a' e => by cases e; exact this⟩
    exact ⟨fun x hx => (List.mem_cons.1 hx).elim (fun e => e ▸ h3.1) (h1 x), h3.2⟩
theorem greed_take (c : Nat → Nat → Int) (M : Nat → Bool) (n j : Nat) : ∀ k, j ≤ k → (greedS c M n k).1.take j = (greedS c M n j).1
  | 0, h => by
    have : j = 0 := by omega
    subst this; rfl
  | k + 1, h => by
    by_cases e : j = k + 1
    · subst e; rw [List.take_of_length_le (by rw [greed_len]; omega)]
    · rw [greedS, List.take_append_of_le_length (by rw [greed_len]; omega)]
      exact greed_take c M n j k (by omega)
theorem greed_set (c : Nat → Nat → Int) (M : Nat → Bool) (n : Nat) : ∀ k, setW (greedS c M n k).1 0 = (greedS c M n k).2
  | 0 => rfl
  | k + 1 => by rw [greedS, setW_snoc, greed_set c M n k]
theorem greed_at (c : Nat → Nat → Int) (M : Nat → Bool) (n j : Nat) (hj : j < n) : (greedS c M n n).1.getD j 0 = nextG c M n (greedS c M n j).2 := by
  have h := greed_take c M n (j + 1) n (by omega)
  have h2 : ((greedS c M n n).1.take (j + 1)).getD j 0 = ((greedS c M n (j + 1)).1).getD j 0 := by rw [h]
  have h3 : ((greedS c M n n).1.take (j + 1)).getD j 0 = (greedS c M n n).1.getD j 0 := by
    simp [List.getD_eq_getElem?_getD, List.getElem?_take]
  rw [← h3, h2, greedS]
  simp [List.getD_eq_getElem?_getD, greed_len]
theorem chain_meets {n : Nat} {xs : List Nat} (g : SpGood n xs) {c : Nat → Nat → Int} (hc : ∀ T G i, (∀ k, T.testBit k = true → G.testBit k = true) → i < n → c G i ≤ c T i) {lim : Int} {G : Nat} (hG : G ∈ xs) (hGf : G ≠ bit n - 1) :
    ∀ (k T : Nat) (t : List Nat), T ∈ xs → pcN T + k = n → (∀ b, T.testBit b = true → G.testBit b = true) → t ∈ chF (fam xs) n k T → okW c lim t T = true → ∃ i, i ∈ itemsN (outerN (fam xs) n G) ∧ c G i ≤ lim
  | 0, T, t, hT, hk, hs, _, _ => by
    exfalso
    have hTf : T = bit n - 1 := (pcN_lt g.n7 (g.lt T hT)).2 (by omega)
    apply hGf
    apply Nat.eq_of_testBit_eq
    intro b
    have hb : (bit n - 1).testBit b = decide (b < n) := Nat.testBit_two_pow_sub_one n b
    by_cases hbn : b < n
    · rw [hb, decide_eq_true hbn]; exact hs b (by rw [hTf, hb, decide_eq_true hbn])
    · rw [hb, decide_eq_false hbn]
      exact Nat.testBit_lt_two_pow (Nat.lt_of_lt_of_le (show G < 2 ^ n from g.lt G hG) (Nat.pow_le_pow_right (by omega) (by omega)))
  | k + 1, T, t, hT, hk, hs, ht, hok => by
    rw [chF, List.mem_flatMap] at ht
    obtain ⟨i, hi, ht⟩ := ht
    obtain ⟨t', ht', rfl⟩ := List.mem_map.1 ht
    obtain ⟨a1, a2, a3⟩ := g.learn hi
    rw [okW, Bool.and_eq_true, decide_eq_true_eq] at hok
    cases hGi : G.testBit i
    · refine ⟨i, ?_, Int.le_trans (hc T G i hs a1) hok.1⟩
      refine mem_items.2 ⟨by have := g.n7; omega, ?_⟩
      rw [outerN_bit, decide_eq_true a1, hGi]
      have hu := g.uni G hG _ a3
      have e : nOr G (nOr T (bit i)) = nOr G (bit i) := by
        apply Nat.eq_of_testBit_eq
        intro b
        rw [nOr_bit, nOr_bit, nOr_bit]
        have := hs b
        cases h1 : T.testBit b <;> simp_all
      rw [e] at hu
      simpa [fam] using hu
    · refine chain_meets g hc hG hGf k _ t' a3 (by rw [pcN_or (by have := g.lt T hT; have := bit7 g.n7; omega) (by have := g.n7; omega) a2]; omega) (fun b hb => ?_) ht' hok.2
      rw [nOr_bit, Bool.or_eq_true] at hb
      rcases hb with hb | hb
      · exact hs b hb
      · rw [bit_bit] at hb
        have : i = b := by simpa using hb
        exact this ▸ hGi
theorem greedy_best {n : Nat} {xs : List Nat} (g : SpGood n xs) {c : Nat → Nat → Int} (hc : ∀ T G i, (∀ k, T.testBit k = true → G.testBit k = true) → i < n → c G i ≤ c T i)
    (h1 : ∀ j, j < (greedN c xs n).length → -10000 < costW c (greedN c xs n) j) : -10000 < topN c (greedN c xs n) ∧ ∀ w ∈ chF (fam xs) n n 0, topN c (greedN c xs n) ≤ topN c w := by
  have hn1 := g.n1
  obtain ⟨q1, q2, _⟩ := critJ_ok c (greedN c xs n) h1 (by simp; omega)
  refine ⟨by have := h1 _ q1; omega, fun w hw => ?_⟩
  rcases Int.lt_or_le (topN c w) (topN c (greedN c xs n)) with hlt | hle
  case inr => exact hle
  exfalso
  generalize hj : critJ c (greedN c xs n) = j at q1 q2
  have hjn : j < n := by simpa using q1
  have e1 : costW c (greedN c xs n) j = c (greedS c (fam xs) n j).2 (nextG c (fam xs) n (greedS c (fam xs) n j).2) := by
    show c (setW ((greedS c (fam xs) n n).1.take j) 0) ((greedS c (fam xs) n n).1.getD j 0) = _
    rw [greed_take c (fam xs) n j n (by omega), greed_set, greed_at c (fam xs) n j hjn]
  have hok := ((topW_le c (topN c (greedN c xs n) - 1) w 0 (-10000)).1 (by have : topW c w 0 (-10000) = topN c w := rfl; omega)).2
  have hi := greed_inv g c j (by omega)
  obtain ⟨i, hi1, hi2⟩ := chain_meets g hc hi.1 (fun e => by have := (greed_end g c (k := j) (by omega)).1 e; omega) n 0 w g.zero (by rw [show pcN 0 = 0 by decide]; omega) (fun b hb => by simp at hb) hw hok
  obtain ⟨m1, _⟩ := nextG_mem c (greed_ne g c hjn)
  have := (leastO_min _ _ _ _ m1).1 i hi1
  omega
theorem sumT_mono {L : List Job} (gj : JobsOK L) {T G : Nat} (h : ∀ k, T.testBit k = true → G.testBit k = true) : ∀ k, k ≤ L.length → sumT L G k ≤ sumT L T k
  | 0, _ => by simp [sumT]
  | k + 1, hk => by
    have h1 := sumT_mono gj h k (by omega)
    have h2 := (gj.at (show k < L.length by omega)).1
    have h3 := h k
    simp only [sumT]
    cases hT : T.testBit k <;> cases hG : G.testBit k <;> simp_all <;> omega
theorem costN_mono {L : List Job} (gj : JobsOK L) (T G i : Nat) (h : ∀ k, T.testBit k = true → G.testBit k = true) (hi : i < L.length) : costN L G i ≤ costN L T i := by
  have h1 := sumT_mono gj h L.length (Nat.le_refl _)
  have h2 := (gj.at hi).2.1
  have := Int.mul_le_mul_of_nonneg_left h1 h2.1
  unfold costN; omega
end Go.Proofs.Ytnncipcldbopgaa
namespace Go.Proofs.Ytnncipcldbopgaa
set_option linter.unusedSimpArgs false
set_option linter.unusedVariables false
set_option maxHeartbeats 4000000
open Go Go.Eng
attribute [local irreducible] WD RunD PreD Runs CallOK
def rowsN (L : List (List Nat)) : List (List Int) := L.map toN
noncomputable def fewB (N : Int) (X : List Int) : Bool := spB N X && decide (N ≤ 5)
end Go.Proofs.Ytnncipcldbopgaa
namespace Go.Proofs.Ytnncipcldbopgaa
set_option linter.unusedSimpArgs false
set_option linter.unusedVariables false
set_option maxHeartbeats 4000000
open Go Go.Eng
attribute [local irreducible] WD RunD PreD Runs CallOK
def OrdN (n : Nat) (w : List Nat) : Prop := w.length = n ∧ ∀ k, k < w.length → w.getD k 0 < n
def keptN (n : Nat) (xs : List Nat) : Nat := ((permsF n n []).filter fun w => decide (namedN n w xs = xs)).length
noncomputable def keptR (N : Int) (X : List Int) : Int := if fewB N X = true then (keptN N.toNat (natsOf X) : Int) else 0
end Go.Proofs.Ytnncipcldbopgaa
namespace Go.Proofs.Ytnncipcldbopgaa
set_option linter.unusedSimpArgs false
set_option linter.unusedVariables false
set_option maxHeartbeats 4000000
open Go Go.Eng
attribute [local irreducible] WD RunD PreD Runs CallOK
theorem chF_mem (M : Nat → Bool) (n : Nat) : ∀ (k s : Nat), ∀ w ∈ chF M n k s, w.length = k ∧ ∀ i ∈ w, i < n
  | 0, s, w, h => by
    have : w = [] := by simpa [chF] using h
    subst this; simp
  | k + 1, s, w, h => by
    rw [chF, List.mem_flatMap] at h
    obtain ⟨i, hi, h⟩ := h
    obtain ⟨t, ht, rfl⟩ := List.mem_map.1 h
    obtain ⟨h1, h2⟩ := chF_mem M n k _ t ht
    have h3 := (mem_items.1 hi).2
    rw [outerN_bit, Bool.and_eq_true, decide_eq_true_eq] at h3
    exact ⟨by simp [h1], fun x hx => (List.mem_cons.1 hx).elim (fun e => e ▸ h3.1) (h2 x)⟩
theorem words_mem (M : Nat → Bool) (n : Nat) : ∀ w ∈ wordsF M n n [] 0, w.length = n ∧ ∀ i ∈ w, i < n := fun w hw => by
  rw [words_ch] at hw
  obtain ⟨t, ht, rfl⟩ := List.mem_map.1 hw
  simpa using chF_mem M n n 0 t ht
noncomputable def cntB (N : Int) (X : List Int) (L : List Job) : Int := if (spB N X && jobsB L N) = true then IntKind.wrap .i64 (waysF (fam (natsOf X)) N.toNat (costN L) (topN (costN L) (greedN (costN L) (natsOf X) N.toNat)) N.toNat 0 : Int) else 0
end Go.Proofs.Ytnncipcldbopgaa
namespace Go.Proofs.Ytnncipcldbopgaa
set_option linter.unusedSimpArgs false
set_option linter.unusedVariables false
set_option maxHeartbeats 4000000
open Go Go.Eng
attribute [local irreducible] WD RunD PreD Runs CallOK
def partS (M : Nat → Bool) (n : Nat) (c : Nat → Nat → Int) (lim : Int) (k s : Nat) : Nat → Nat
  | 0 => 0
  | i + 1 => partS M n c lim k s i + (if s.testBit i = false ∧ M (nOr s (bit i)) = true then (if c s i ≤ lim then waysF M n c lim k (nOr s (bit i)) else 0) else 0)
def partL (f : Nat → Int) (M : Nat → Bool) (c : Nat → Nat → Int) (s : Nat) : Nat → Int
  | 0 => 10000
  | i + 1 => if s.testBit i = false ∧ M (nOr s (bit i)) = true then (if partL f M c s i < (if f (nOr s (bit i)) < c s i then c s i else f (nOr s (bit i))) then partL f M c s i else (if f (nOr s (bit i)) < c s i then c s i else f (nOr s (bit i)))) else partL f M c s i
def lowF (M : Nat → Bool) (n : Nat) (c : Nat → Nat → Int) : Nat → Nat → Int
  | 0, _ => -10000
  | k + 1, s => partL (lowF M n c k) M c s n
def Tab (M : Nat → Bool) (n : Nat) (c : Nat → Nat → Int) (lim : Int) (xs : List Nat) (q : Nat) (cs : List Value) : Prop :=
  cs.length = xs.length * 2 ∧ ∀ i (hi : i < xs.length), q ≤ i → cs[i * 2]? = some (.int .i64 (lowF M n c (n - pcN xs[i]) xs[i])) ∧ cs[i * 2 + 1]? = some (.int .i64 (IntKind.wrap .i64 (waysF M n c lim (n - pcN xs[i]) xs[i] : Int)))
end Go.Proofs.Ytnncipcldbopgaa
namespace Go.Proofs.Ytnncipcldbopgaa
set_option linter.unusedSimpArgs false
set_option linter.unusedVariables false
set_option maxHeartbeats 4000000
open Go Go.Eng
attribute [local irreducible] WD RunD PreD Runs CallOK
def addN (M : Nat → Bool) (n : Nat) (c : Nat → Nat → Int) (lim : Int) (k s i : Nat) (b : Bool) : Nat := if s.testBit i = false ∧ b = true then (if c s i ≤ lim then waysF M n c lim k (nOr s (bit i)) else 0) else 0
end Go.Proofs.Ytnncipcldbopgaa
namespace Go.Proofs.Ytnncipcldbopgaa
set_option linter.unusedSimpArgs false
set_option linter.unusedVariables false
set_option maxHeartbeats 4000000
open Go Go.Eng
attribute [local irreducible] WD RunD PreD Runs CallOK
def stepU {σ : Type} (stop : σ → Bool) (step : σ → List Nat → σ) (s : σ) (w : List Nat) : σ := if stop s = true then s else step s w
structure WSu (base : Nat) (S : Nat → Prop) (A : WA) (n : Nat) (M : Nat → Bool) (b : Value) (X : List Int) (dv : Value) (h : Hp) (W : List Nat) (v : Value) (bg : Bool) : Prop where
  ord : base ≤ A.os ∧ A.os < A.od ∧ A.od < A.fo ∧ A.fo < A.oF ∧ A.oF < A.ow ∧ A.ow < A.og ∧ A.og < A.on ∧ A.on < A.B ∧ A.B ≤ h.next
  gs : h.get A.os = .cells [.int .i64 (n : Int), b] true true 1
  ib : IntsF (fun x => x < base ∧ ¬ S x) h b X
  gd : h.get A.od = .cells [dv] true true 1
  gF : h.get A.fo = .cells (famC M) true true 1
  gf : h.get A.oF = .cells [.pointer (some ⟨A.fo, 0, none⟩)] true true 1
  gw : h.get A.ow = .cells [v] true true 1
  gg : h.get A.og = .cells [.bool bg] true true 1
  gn : h.get A.on = .cells [.func (.func 248) #[] #[.pointer (some ⟨A.os, 0, none⟩), .pointer (some ⟨A.od, 0, none⟩), .pointer (some ⟨A.ow, 0, none⟩), .pointer (some ⟨A.og, 0, none⟩), .pointer (some ⟨A.oF, 0, none⟩), .pointer (some ⟨A.on, 0, none⟩)]] true true 1
  ws : WS A.B h v W
section
variable {σ : Type} (P : σ → (Nat → Prop) → Hp → Prop) (stop : σ → Bool) (step : σ → List Nat → σ) (Good : List Nat → Prop) (base : Nat) (S : Nat → Prop) (fid : Nat) (dc : Array Value)
structure DoerU : Prop where
  stab : ∀ s T h h', P s T h → base ≤ h.next → h.next ≤ h'.next → (∀ o, o < h.next → (o < base ∨ T o) → h'.get o = h.get o) → P s T h'
  run : ∀ s T h w v, stop s = false → P s T h → base ≤ h.next → Ints h v (toN w) → Good w → ∃ h', CallOK Try.prog fid (#[v] ++ dc) h (.bool (!stop (step s w))) h' ∧ Wr (fun o => S o ∨ T o) h h' ∧ ∃ T', P (step s w) T' h' ∧ ∀ o, T' o → (T o ∨ h.next ≤ o) ∧ o < h'.next
  low : ∀ o, S o → o < base
  fn : fnOK Try.prog fid = true
end
end Go.Proofs.Ytnncipcldbopgaa
namespace Go.Proofs.Ytnncipcldbopgaa
set_option linter.unusedSimpArgs false
set_option linter.unusedVariables false
set_option maxHeartbeats 4000000
open Go Go.Eng
attribute [local irreducible] WD RunD PreD Runs CallOK
end Go.Proofs.Ytnncipcldbopgaa
namespace Go.Proofs.Ytnncipcldbopgaa
set_option linter.unusedSimpArgs false
set_option linter.unusedVariables false
set_option maxHeartbeats 4000000
open Go Go.Eng
attribute [local irreducible] WD RunD PreD Runs CallOK
def stepW (M : Nat → Bool) (n s : Nat) (i : Int) : Option Nat := if 0 ≤ i ∧ i < (n : Int) ∧ s.testBit i.toNat = false ∧ M (nOr s (bit i.toNat)) = true then some (nOr s (bit i.toNat)) else none
def setF (M : Nat → Bool) (n : Nat) : List Int → Nat → Option Nat
  | [], s => some s
  | i :: l, s => match stepW M n s i with
    | some t => setF M n l t
    | none => none
noncomputable def wordB (N : Int) (X W : List Int) : Bool := spB N X && (setF (fam (natsOf X)) N.toNat W 0).isSome
noncomputable def fullB (N : Int) (X W : List Int) : Bool := wordB N X W && decide ((W.length : Int) = N)
end Go.Proofs.Ytnncipcldbopgaa
namespace Go.Proofs.Ytnncipcldbopgaa
set_option linter.unusedSimpArgs false
set_option linter.unusedVariables false
set_option maxHeartbeats 4000000
open Go Go.Eng
attribute [local irreducible] WD RunD PreD Runs CallOK
noncomputable def gvB (N : Int) (X : List Int) (L : List Job) : Bool := spB N X && jobsB L N
theorem gvB_true {N : Int} {X : List Int} {L : List Job} (h : gvB N X L = true) : ∃ n xs, N = (n : Nat) ∧ X = toN xs ∧ SpGood n xs ∧ JobsOK L ∧ L.length = n := by
  unfold gvB at h
  rw [Bool.and_eq_true] at h
  obtain ⟨n, xs, rfl, rfl, g⟩ := spB_true h.1
  obtain ⟨h1, h2⟩ := jobsB_ok h.2
  exact ⟨n, xs, rfl, rfl, g, h2, by omega⟩
noncomputable def greedR (N : Int) (X : List Int) (L : List Job) : List Int := if gvB N X L = true then toN (greedN (costN L) (natsOf X) N.toNat) else []
noncomputable def atOK (N : Int) (X : List Int) (L : List Job) (a i : Int) : Bool := gvB N X L && (oneB N X a && (decide (0 ≤ i ∧ i ≤ N - 1) && (outerN (fam (natsOf X)) N.toNat a.toNat).testBit i.toNat))
noncomputable def atC (N : Int) (X : List Int) (L : List Job) (a i : Int) : Int := if atOK N X L a i = true then costN L a.toNat i.toNat else 0
theorem greed_ch {n : Nat} {xs : List Nat} (g : SpGood n xs) (c : Nat → Nat → Int) : greedN c xs n ∈ chF (fam xs) n n 0 := by
  have key : ∀ k, k ≤ n → (greedS c (fam xs) n k).1 ∈ chF (fam xs) n k 0 := by
    have snoc : ∀ (k s : Nat) (w : List Nat) (i : Nat), w ∈ chF (fam xs) n k s → i ∈ itemsN (outerN (fam xs) n (setW w s)) → w ++ [i] ∈ chF (fam xs) n (k + 1) s := by
      intro k
      induction k with
      | zero =>
        intro s w i hw hi
        simp [chF] at hw
        subst hw
        rw [chF, List.mem_flatMap]
        exact ⟨i, hi, by simp [chF]⟩
      | succ k ih =>
        intro s w i hw hi
        rw [chF, List.mem_flatMap] at hw
        obtain ⟨j, hj, hw⟩ := hw
        obtain ⟨t, ht, rfl⟩ := List.mem_map.1 hw
        rw [chF, List.mem_flatMap]
        exact ⟨j, hj, List.mem_map.2 ⟨t ++ [i], ih _ t i ht hi, rfl⟩⟩
    intro k
    induction k with
    | zero => intro _; simp [greedS, chF]
    | succ k ih =>
      intro hk
      have hm := (nextG_mem c (greed_ne g c (show k < n by omega))).2
      have := snoc k 0 _ _ (ih (by omega)) (by rw [greed_set]; exact hm)
      exact this
  exact key n (Nat.le_refl _)
theorem plainClo_ok (h : Hp) (oT oA oO n : Nat) (v u : Value) (L : List Job) (W : List Nat) (any : Bool) (best : Int) (gT : h.get oT = .cells [u] true true 1) (gA : h.get oA = .cells [.bool any] true true 1) (gO : h.get oO = .cells [.int .i64 best] true true 1) (hne : oA ≠ oO) (hv : Ints h v (toN W)) (hu : Jobs h u L) (gj : JobsOK L)
    (hn : L.length = n) (h0 : 0 < n) (hW : W.length = n ∧ ∀ i ∈ W, i < n) :
    ∃ v' h', CallOK Try.prog 204 #[v, .pointer (some ⟨oT, 0, none⟩), .pointer (some ⟨oA, 0, none⟩), .pointer (some ⟨oO, 0, none⟩)] h v' h' ∧ v' = .bool true ∧ h' = if any = false ∨ topN (costN L) W < best then (h.put oO (.cells [.int .i64 (topN (costN L) W)] true true 1)).put oA (.cells [.bool true] true true 1) else h := by
  have ntu := hu.nt
  have csu := hu.cs
  have ntv := hv.nt
  have csv := hv.cs
  have n7 := gj.n7
  have hne1 := hne
  have hne2 := hne.symm
  refine callY_L (args := [v, .pointer (some ⟨oT, 0, none⟩), .pointer (some ⟨oA, 0, none⟩), .pointer (some ⟨oO, 0, none⟩)]) 18 _ [.tmp 5] Try.func204 rfl rfl rfl ?_
  have gT' := gT
  try simp (disch := first | omega | (simp; done) | fail) [wrap64c, if_pos, if_neg, opAnd, opOr, opXor, opDiff, opShr, opBit, ntu, csu, ntv, csv, hne1, hne2, gT', gA, gO]
  refine callG_c (by simp) (by simp) ?ha (costOf_ok h u v L W hu hv gj (fun i hi => by rw [hn]; exact hW.2 i hi) (by omega) (by omega)) ?_
  (case ha => simp (disch := first | omega | (simp; done) | fail) [wrap64c, if_pos, if_neg, opAnd, opOr, opXor, opDiff, opShr, opBit, ntu, csu, ntv, csv, hne1, hne2, gT', gA, gO])
  cases any
  · try simp (disch := first | omega | (simp; done) | fail) [wrap64c, if_pos, if_neg, opAnd, opOr, opXor, opDiff, opShr, opBit, ntu, csu, ntv, csv, hne1, hne2, gT', gA, gO, putCells]
    exact done_ret rfl (by simp)
  · by_cases hc : topN (costN L) W < best
    · try simp (disch := first | omega | (simp; done) | fail) [wrap64c, if_pos, if_neg, opAnd, opOr, opXor, opDiff, opShr, opBit, ntu, csu, ntv, csv, hne1, hne2, gT', gA, gO, hc, putCells]
      exact done_ret rfl (by simp [hc])
    · try simp (disch := first | omega | (simp; done) | fail) [wrap64c, if_pos, if_neg, opAnd, opOr, opXor, opDiff, opShr, opBit, ntu, csu, ntv, csv, hne1, hne2, gT', gA, gO, hc]
      exact done_ret rfl (by simp [hc])
theorem implPlain_ok (h : Hp) (v w : Value) (N : Int) (X : List Int) (L : List Job) (hv : Space h v N X) (hw : Jobs h w L) (hl : X.length < 2 ^ 40) :
    CallOK Try.prog 99 #[v, w] h (.tuple #[.int .i64 (bestC N X L), .bool (gvB N X L)]) h := by
  refine callY_P 16 _ [.tmp 4, .tmp 5] Try.func99 rfl rfl rfl (by first | rfl | simp) ?_
  obtain ⟨b, rfl, hX⟩ := hv
  have ntw := hw.nt
  have csw := hw.cs
  refine WD_first ?_
  try simp (disch := first | omega | (simp; done) | fail) [wrap64c, if_pos, if_neg, opAnd, opOr, opXor, opDiff, opShr, opBit, ntw, csw]
  refine stopK_heap fun h0 q_h0 => ?_
  refine stopK_go ?_
  have k0 : Adds h h0 := by rw [q_h0]; exact (by first | exact aK | exact kK)
  have n0 : h0.next = h.next + 2 := by simp [q_h0]
  have gs0 : h0.get h.next = .cells [.int .i64 N, b] true true 1 := by simp [q_h0]
  have gw0 : h0.get (h.next + 1) = .cells [w] true true 1 := by simp [q_h0]
  have hX0 := hX.keep k0.1
  have hw0 := hw.keep k0.1
  have pt : CallOK Try.prog 177 #[.agg #[.int .i64 N, b], w] h0 (.bool (gvB N X L)) h0 := together_ok h0 (.agg #[.int .i64 N, b]) w N X L (.mk hX0) hw0 hl
  have eB : bestC N X L = if gvB N X L = true then topN (costN L) (greedN (costN L) (natsOf X) N.toNat) else 0 := rfl
  try simp (disch := first | omega | (simp; done) | fail) [wrap64c, if_pos, if_neg, opAnd, opOr, opXor, opDiff, opShr, opBit, ntw, csw, gs0, gw0]
  refine callG_c (by simp) (by simp) ?ha (pt) ?_
  (case ha => simp (disch := first | omega | (simp; done) | fail) [wrap64c, if_pos, if_neg, opAnd, opOr, opXor, opDiff, opShr, opBit, ntw, csw, gs0, gw0])
  cases c1 : gvB N X L
  · try simp (disch := first | omega | (simp; done) | fail) [wrap64c, if_pos, if_neg, opAnd, opOr, opXor, opDiff, opShr, opBit, ntw, csw, gs0, gw0, c1]
    exact done_ret rfl ⟨by simp [eB, c1], (by first | exact aK | exact kK)⟩
  · obtain ⟨n, xs, hN, hXe, g, gj, hLn⟩ := gvB_true c1
    subst hN hXe
    have n7 := g.n7
    have n1 := g.n1
    try simp (disch := first | omega | (simp; done) | fail) [wrap64c, if_pos, if_neg, opAnd, opOr, opXor, opDiff, opShr, opBit, ntw, csw, gs0, gw0, c1, putCells]
    first | refine WY_heap fun h1 q_h1 => ?_ | refine callG_heap fun h1 q_h1 => ?_ | refine callP_heap fun h1 q_h1 => ?_ | refine callS_heap fun h1 q_h1 => ?_ | refine RY_heap fun h1 q_h1 => ?_ | refine PY_heap fun h1 q_h1 => ?_ | refine SY_heap fun h1 q_h1 => ?_ | refine doneY_heap fun h1 q_h1 => ?_ | refine loopK_heap fun h1 q_h1 => ?_ | refine thenY_heap fun h1 q_h1 => ?_ | refine thenM_heap fun h1 q_h1 => ?_
    have k1 : Adds h0 h1 := by rw [q_h1]; exact (by first | exact aK | exact kK)
    have m1 : h1.next = h0.next + 2 := by simp [q_h1]
    have gs1 : h1.get h.next = .cells [.int .i64 n, b] true true 1 := by rw [k1.1.2 _ (by omega)]; exact gs0
    have gw1 : h1.get (h.next + 1) = .cells [w] true true 1 := by rw [k1.1.2 _ (by omega)]; exact gw0
    have go1 : h1.get h0.next = .cells [.int .i64 0] true true 1 := by simp [q_h1]
    have gn1 : h1.get (h0.next + 1) = .cells [.bool false] true true 1 := by simp [q_h1]
    have hw1 := hw0.keep k1.1
    have hne : h0.next + 1 ≠ h0.next := by omega
    have D : Doer (fun (s : Option Int) (T : Nat → Prop) h' => (∀ o, T o → False) ∧ h1.next ≤ h'.next ∧ (∀ o, o < h1.next → o ≠ h0.next → o ≠ h0.next + 1 → h'.get o = h1.get o) ∧ h'.get h0.next = .cells [.int .i64 (s.getD 0)] true true 1 ∧ h'.get (h0.next + 1) = .cells [.bool s.isSome] true true 1) (fun s w => if s = none ∨ topN (costN L) w < s.getD 0 then some (topN (costN L) w) else s) (fun w => w.length = n ∧ ∀ i ∈ w, i < n) h1.next (fun o => o = h0.next ∨ o = h0.next + 1) 204 #[.pointer (some ⟨h.next + 1, 0, none⟩), .pointer (some ⟨h0.next + 1, 0, none⟩), .pointer (some ⟨h0.next, 0, none⟩)] := {
      stab := fun s T h' h'' hp hb1 hb2 hs => ⟨hp.1, by omega, fun o ho hne hne2 => by rw [hs o (by omega) (.inl ho)]; exact hp.2.2.1 o ho hne hne2, by rw [hs _ (by omega) (.inl (by omega))]; exact hp.2.2.2.1, by rw [hs _ (by omega) (.inl (by omega))]; exact hp.2.2.2.2⟩
      run := fun s T h' W u hp hb1 hv hg => by
        obtain ⟨hT, p1, p2, p3, p4⟩ := hp
        have K1 : Keeps h0 h' := ⟨by omega, fun o ho => by rw [p2 o (by omega) (by omega) (by omega)]; exact k1.1.2 o ho⟩
        obtain ⟨_, h3, hc3, rfl, he⟩ := plainClo_ok h' (h.next + 1) (h0.next + 1) h0.next n u w L W s.isSome (s.getD 0) (by rw [p2 _ (by omega) (by omega) (by omega)]; exact gw1) p4 p3 hne hv (hw0.keep K1) gj hLn n1 hg
        by_cases hc : s = none ∨ topN (costN L) W < s.getD 0
        · rw [if_pos (by rcases hc with hc | hc; exact .inl (by rw [hc]; rfl); exact .inr hc)] at he
          refine ⟨h3, hc3, ?_, fun _ => False, ⟨fun _ hf => hf, ?_, ?_, ?_, ?_⟩, fun _ hf => hf.elim⟩
          · rw [he]; exact ((Wr.of_adds (adds_self _)).put (.inl (.inl rfl)) fun _ => rfl).put (.inl (.inr rfl)) fun _ => rfl
          · rw [he]; simpa using p1
          · intro o ho hne1 hne2; rw [he]; simp [hne1, hne2, p2 o ho hne1 hne2]
          · rw [he, if_pos hc]; simp
          · rw [he, if_pos hc]; simp
        · rw [if_neg (by rintro (h | h); exact hc (.inl (by cases s with | none => rfl | some x => simp at h)); exact hc (.inr h))] at he
          subst he
          refine ⟨h3, hc3, .of_adds (adds_self _), fun _ => False, ⟨fun _ hf => hf, p1, p2, ?_, ?_⟩, fun _ hf => hf.elim⟩
          · rw [if_neg hc]; exact p3
          · rw [if_neg hc]; exact p4
      low := fun o ho => by omega
      fn := by simp }
    have hX1 : IntsF (fun x => x < h1.next ∧ ¬ (x = h0.next ∨ x = h0.next + 1)) h1 b (toN xs) := ((hX.old.keep k0.1).keep k1.1).sub fun o ho => by omega
    obtain ⟨u, h2, hc2, W2, T2, P2, hT2⟩ := words_ok _ _ _ _ _ _ _ D n xs g h1 b none hX1 ⟨fun _ hf => hf, Nat.le_refl _, fun o ho _ _ => rfl, go1, gn1⟩ (Nat.le_refl _) (words_mem _ _)
    have hfold : (wordsF (fam xs) n n [] 0).foldl (fun s w => if s = none ∨ topN (costN L) w < s.getD 0 then some (topN (costN L) w) else s) none = some (topN (costN L) (greedN (costN L) xs n)) := by
      obtain ⟨q1, q2⟩ := greedN_costs g gj hLn
      obtain ⟨b1, b2⟩ := greedy_best g (c := costN L) (fun T G i h hi => costN_mono gj T G i h (by omega)) q2
      have hm := greed_ch g (costN L)
      rw [words_ch, show (fun t : List Nat => [] ++ t) = id from funext fun _ => rfl, List.map_id]
      obtain ⟨tb, htb⟩ : ∃ t, t = topN (costN L) (greedN (costN L) xs n) := ⟨_, rfl⟩
      rw [← htb] at b1 b2 ⊢
      have key : ∀ (l : List (List Nat)) (s : Option Int), (∀ x, s = some x → tb ≤ x) → (∀ w ∈ l, tb ≤ topN (costN L) w) → (s = some tb ∨ ∃ w ∈ l, topN (costN L) w = tb) → l.foldl (fun s w => if s = none ∨ topN (costN L) w < s.getD 0 then some (topN (costN L) w) else s) s = some tb := by
        intro l
        induction l with
        | nil => intro s h1 h2 h3; rcases h3 with h3 | ⟨w, hw, _⟩; exact h3; cases hw
        | cons a l ih =>
          intro s h1 h2 h3
          rw [List.foldl_cons]
          have ha := h2 a (by simp)
          apply ih
          · intro x hx
            split at hx
            · cases hx; exact ha
            · exact h1 x hx
          · exact fun w hw => h2 w (by simp [hw])
          · by_cases hc : s = none ∨ topN (costN L) a < s.getD 0
            · rw [if_pos hc]
              rcases h3 with h3 | ⟨w, hw, he⟩
              · subst h3; rcases hc with hc | hc
                · cases hc
                · simp at hc; omega
              · rcases List.mem_cons.1 hw with rfl | hw
                · left; rw [he]
                · exact .inr ⟨w, hw, he⟩
            · rw [if_neg hc]
              rcases h3 with h3 | ⟨w, hw, he⟩
              · exact .inl h3
              · rcases List.mem_cons.1 hw with rfl | hw
                · left
                  cases s with
                  | none => exact absurd (.inl rfl) hc
                  | some x =>
                    have := h1 x rfl
                    have h5 : ¬ topN (costN L) w < x := fun h => hc (.inr h)
                    congr 1; omega
                · exact .inr ⟨w, hw, he⟩
      exact key _ none (fun x h => by cases h) b2 (.inr ⟨_, hm, htb.symm⟩)
    refine callG_c (by simp) (by simp) ?ha (hc2) ?_
    (case ha => simp (disch := first | omega | (simp; done) | fail) [wrap64c, if_pos, if_neg, opAnd, opOr, opXor, opDiff, opShr, opBit, ntw, csw, gs0, gw0, c1, gs1])
    rw [hfold] at P2
    have gc2 := P2.2.2.2.1
    simp only [Option.getD_some] at gc2
    have gc2 := gc2
    try simp (disch := first | omega | (simp; done) | fail) [wrap64c, if_pos, if_neg, opAnd, opOr, opXor, opDiff, opShr, opBit, ntw, csw, gs0, gw0, c1, gs1, gc2]
    have A2 : Keeps h h2 := ⟨by have := k0.1.1; have := P2.2.1; omega, fun o ho => by rw [P2.2.2.1 o (by omega) (by omega) (by omega), k1.1.2 o (by omega), k0.1.2 o ho]⟩
    exact done_ret rfl (by simp [eB, c1, A2])
end Go.Proofs.Ytnncipcldbopgaa
namespace Go.Proofs.Ytnncipcldbopgaa
set_option linter.unusedSimpArgs false
set_option linter.unusedVariables false
set_option maxHeartbeats 4000000
open Go Go.Eng
attribute [local irreducible] WD RunD PreD Runs CallOK
def ordB (R : List Int) (N : Int) : Bool := decide ((R.length : Int) = N) && (sizeB N && decide ((∀ x ∈ R, 0 ≤ x ∧ x ≤ N - 1) ∧ R.Nodup))
theorem nodup_toN {rs : List Nat} : (toN rs).Nodup ↔ rs.Nodup := by
  unfold toN
  rw [List.nodup_iff_pairwise_ne, List.nodup_iff_pairwise_ne, List.pairwise_map]
  exact ⟨fun h => h.imp fun hne e => hne (by rw [e]), fun h => h.imp fun hne e => hne (by omega)⟩
theorem setW_bit : ∀ (l : List Nat) (s i : Nat), (setW l s).testBit i = (s.testBit i || decide (i ∈ l))
  | [], s, i => by simp [setW]
  | a :: l, s, i => by
    rw [setW, setW_bit l, nOr_bit, bit_bit]
    by_cases e : a = i
    · subst e; simp
    · simp [e, Ne.symm e]
theorem setF_some {M : Nat → Bool} {n : Nat} : ∀ {l : List Int} {s t : Nat}, setF M n l s = some t → (∀ x ∈ l, (0 ≤ x ∧ x < (n : Int)) ∧ s.testBit x.toNat = false) ∧ l.Nodup
  | [], s, t, h => by simp
  | i :: l, s, t, h => by
    simp only [setF] at h
    cases hs : stepW M n s i with
    | none => rw [hs] at h; cases h
    | some r =>
      rw [hs] at h
      obtain ⟨h1, h2⟩ := setF_some h
      unfold stepW at hs
      split at hs
      · rename_i hc
        cases hs
        refine ⟨fun x hx => ?_, List.nodup_cons.2 ⟨fun hm => ?_, h2⟩⟩
        · rcases List.mem_cons.1 hx with rfl | hx
          · exact ⟨⟨hc.1, hc.2.1⟩, hc.2.2.1⟩
          · have := h1 x hx
            refine ⟨this.1, ?_⟩
            have h5 := this.2
            rw [nOr_bit] at h5; simp at h5; exact h5.1
        · have := (h1 i hm).2
          rw [nOr_bit, bit_bit] at this; simp at this
      · cases hs
noncomputable def costR (N : Int) (X : List Int) (L : List Job) (W : List Int) : Int := if (gvB N X L && fullB N X W) = true then topN (costN L) (natsOf W) else 0
end Go.Proofs.Ytnncipcldbopgaa
namespace Go.Proofs.Ytnncipcldbopgaa
set_option linter.unusedSimpArgs false
set_option linter.unusedVariables false
set_option maxHeartbeats 4000000
open Go Go.Eng
attribute [local irreducible] WD RunD PreD Runs CallOK
def cheapN (c : Nat → Nat → Int) (lim : Int) (M : Nat → Bool) (n s : Nat) : List Nat := (itemsN (outerN M n s)).filter fun i => decide (c s i ≤ lim)
def belowF (c : Nat → Nat → Int) (lim : Int) (M : Nat → Bool) (n : Nat) (ch : List Int) : Nat → Nat → Nat → Nat
  | 0, _, s => s
  | k + 1, t, s => if cheapN c lim M n s = [] then s else belowF c lim M n ch k (t + 1) (nOr s (bit (pickN ch t (cheapN c lim M n s))))
def belowN (c : Nat → Nat → Int) (lim : Int) (xs : List Nat) (n : Nat) (ch : List Int) : Nat := belowF c lim (fam xs) n ch n 0 0
noncomputable def blB (N : Int) (X : List Int) (L : List Job) (lim : Int) (ch : List Int) : Bool := gvB N X L && (decide (-10000 ≤ lim ∧ lim ≤ 10000) && chB ch 20)
noncomputable def blR (N : Int) (X : List Int) (L : List Job) (lim : Int) (ch : List Int) : Int := if blB N X L lim ch = true then ((belowN (costN L) lim (natsOf X) N.toNat ch : Nat) : Int) else 0
end Go.Proofs.Ytnncipcldbopgaa
namespace Go.Proofs.Ytnncipcldbopgaa
set_option linter.unusedSimpArgs false
set_option linter.unusedVariables false
open Go Go.Eng
theorem crit_least {n : Nat} {xs : List Nat} {L : List Job} (g : SpGood n xs) (gj : JobsOK L) (hn : L.length = n) : ∃ S i, S = setW ((greedN (costN L) xs n).take (critJ (costN L) (greedN (costN L) xs n))) 0 ∧ i = (greedN (costN L) xs n).getD (critJ (costN L) (greedN (costN L) xs n)) 0 ∧
    S ∈ xs ∧ S ≠ bit n - 1 ∧ i ∈ itemsN (outerN (fam xs) n S) ∧ costN L S i = topN (costN L) (greedN (costN L) xs n) ∧ ∀ j ∈ itemsN (outerN (fam xs) n S), topN (costN L) (greedN (costN L) xs n) ≤ costN L S j := by
  have hn1 := g.n1
  obtain ⟨_, h1⟩ := greedN_costs g gj hn
  obtain ⟨q1, q2, _⟩ := critJ_ok (costN L) (greedN (costN L) xs n) h1 (by rw [greedN, greed_len]; omega)
  generalize hj : critJ (costN L) (greedN (costN L) xs n) = j at q1 q2
  have hjn : j < n := by rw [greedN, greed_len] at q1; exact q1
  have eS : setW ((greedN (costN L) xs n).take j) 0 = (greedS (costN L) (fam xs) n j).2 := by
    show setW ((greedS (costN L) (fam xs) n n).1.take j) 0 = _
    rw [greed_take (costN L) (fam xs) n j n (by omega), greed_set]
  have eI : (greedN (costN L) xs n).getD j 0 = nextG (costN L) (fam xs) n (greedS (costN L) (fam xs) n j).2 := greed_at (costN L) (fam xs) n j hjn
  obtain ⟨m1, m2⟩ := nextG_mem (costN L) (greed_ne g (costN L) hjn)
  have hi := greed_inv g (costN L) j (by omega)
  rw [costW, eS, eI] at q2
  refine ⟨_, _, rfl, rfl, ?_⟩
  rw [eS, eI]
  exact ⟨hi.1, fun e => by have := (greed_end g (costN L) (k := j) (by omega)).1 e; omega, m2, q2, fun k hk => by have := (leastO_min _ _ _ _ m1).1 k hk; omega⟩
theorem ch_set {n : Nat} {xs : List Nat} (g : SpGood n xs) : ∀ (k s : Nat) (w : List Nat), w ∈ chF (fam xs) n k s → (setF (fam xs) n (toN w) s).isSome = true ∧ w.length = k
  | 0, s, w, hw => by
    simp [chF] at hw
    subst hw
    exact ⟨rfl, rfl⟩
  | k + 1, s, w, hw => by
    rw [chF, List.mem_flatMap] at hw
    obtain ⟨j, hj, hw⟩ := hw
    obtain ⟨t, ht, rfl⟩ := List.mem_map.1 hw
    obtain ⟨a1, a2, a3⟩ := g.learn hj
    obtain ⟨b1, b2⟩ := ch_set g k _ t ht
    refine ⟨?_, by simp [b2]⟩
    have e : stepW (fam xs) n s ((j : Nat) : Int) = some (nOr s (bit j)) := by
      rw [stepW, if_pos ⟨by omega, by omega, by simpa using a2, by simpa [fam] using a3⟩]
      simp
    show (match stepW (fam xs) n s ((j : Nat) : Int) with | some t' => setF (fam xs) n (toN t) t' | none => none).isSome = true
    rw [e]
    exact b1
end Go.Proofs.Ytnncipcldbopgaa
namespace Go.Eng
open Go.Proofs
end Go.Eng
namespace Go.Eng
open Go.Proofs
theorem putCells_in {c : List Value} {i : Nat} {vs : List Value} (hi : i ≤ c.length) {k : Nat} (hk : k < vs.length) : (putCells c i vs)[i + k]? = vs[k]? := by
  have hl : (c.take i).length = i := by rw [List.length_take]; omega
  unfold putCells
  rw [List.getElem?_append_right (by omega), hl, List.getElem?_append_left (by omega)]
  congr 1; omega
theorem reverseO_ok {P : Program} {ρ : Go.Shelf.Ren} (Ly : Lays.n112 P ρ) {S : Nat → Prop} {h : Hp} {v : Value} {xs : List Int} (hs : IntsO S h v xs) (hl : xs.length < 2 ^ 40) :
    ∃ h', CallOK P (ρ.f 112) #[v] h (.tuple #[]) h' ∧ IntsO S h' v xs.reverse ∧ h'.next = h.next ∧ (∀ a, Adds a h → (∀ o, S o → a.next ≤ o) → Adds a h') ∧ Upd S h h' := by
  have one : ∀ {args' : Array Value}, (#[v] : Array Value).size = args'.size → args' = #[args'.getD 0 undef] := by
    intro args' h1
    apply Array.ext
    · simpa using h1.symm
    · intro i h2 h3
      have : i = 0 := by simp at h1; omega
      subst this
      simp [Array.getD_eq_getD_getElem?, h2]
  rcases Nat.eq_zero_or_pos xs.length with h0 | h0
  · have hx : xs = [] := List.eq_nil_of_length_eq_zero h0
    subst hx
    refine ⟨h, ?_, by simpa using hs, rfl, fun _ k _ => k, Upd.refl _ _⟩
    intro E base w args' hr h1 h2
    have h3 := h2 0 (by simp)
    rw [one h1]
    have hform : ∃ p c, args'.getD 0 undef = .slice p 0 c := by
      obtain ⟨s, c, e, _⟩ := hs
      simp only [e, Array.getD_eq_getD_getElem?] at h3
      simp only [Array.getD_eq_getD_getElem?]
      generalize (args'[0]?).getD undef = u at h3
      cases s with
      | none => simp at h3; cases h3; exact ⟨_, _, rfl⟩
      | some s => simp at h3; cases h3 <;> exact ⟨_, _, rfl⟩
    obtain ⟨p, c, e⟩ := hform
    rw [e]
    refine (Any.slices_Reverse_int_empty Ly p c w).mono ?_
    rintro e w' ⟨rfl, rfl⟩
    exact ⟨E, _, rfl, Step.refl _ _ _, hr, .tuple _ _ rfl (fun i hi => absurd hi (by simp))⟩
  · obtain ⟨s, c, e, g1, g2, g3⟩ := hs
    rcases g3 with g3 | ⟨o, i, cs, ex, rfl, gS, go, g3, g4, g5⟩
    · omega
    have hown : (h.get o).owned = true := by rw [g3]; rfl
    have hpl : (putCells cs i (xs.reverse.map (.int .i64))).length = cs.length := putCells_length (by simp; omega)
    refine ⟨h.put o (.cells (putCells cs i (xs.reverse.map (.int .i64))) true ex 1), ?_, ⟨_, c, by simpa using e, by simpa using g1, g2, .inr ⟨o, i, putCells cs i (xs.reverse.map (.int .i64)), ex, rfl, gS, by simpa using go, by simp [Hp.put], by rw [hpl]; exact g4, fun k hk => by
      rw [putCells_in (by omega) (by simpa using hk)]
      rw [List.getElem?_map, List.getElem?_eq_getElem hk]; rfl⟩⟩, rfl, ?_, ?_⟩
    · intro E base w args' hr h1 h2
      have h3 := h2 0 (by simp)
      rw [one h1]
      have hform : ∃ sl, args'.getD 0 undef = .slice (some ⟨E.blk o, E.off o + i, none⟩) xs.length sl ∧ E.D o := by
        simp only [e, Array.getD_eq_getD_getElem?] at h3
        simp only [Array.getD_eq_getD_getElem?]
        generalize (args'[0]?).getD undef = u at h3
        simp at h3
        cases h3 with
        | slice o i n c a hD hn ha =>
          rcases ha with ha | ha
          · omega
          · subst ha; exact ⟨_, rfl, hD⟩
      obtain ⟨sl, e2, hD⟩ := hform
      rw [e2]
      have ho := hr.obj o hD
      rw [g3] at ho
      obtain ⟨C, ty, fz, c1, c2, c3, c4, c5, c6⟩ := ho
      obtain ⟨c5, c7⟩ := c5 rfl
      subst c5
      have hblk : E.blk o < w.heap.size := (Array.getElem?_eq_some_iff.1 c1).1
      have cell : ∀ j, E.off o + j < C.size → (Go.Sort.putCells (Value.int .i64) (E.off o + i) xs.reverse.toArray C).getD (E.off o + j) undef = if i ≤ j ∧ j < i + xs.length then .int .i64 (xs.reverse.getD (j - i) 0) else C.getD (E.off o + j) undef := by
        intro j hc
        simp only [Array.getD_eq_getD_getElem?, Go.Sort.putCells, Array.getElem?_mapIdx, Array.getElem?_eq_getElem hc, Option.map_some, Option.getD_some]
        by_cases hj : i ≤ j ∧ j < i + xs.length
        · rw [if_pos ⟨by omega, by simp; omega⟩, if_pos hj]
          have e1 : E.off o + j - (E.off o + i) = j - i := by omega
          rw [e1]
          simp [List.getD_eq_getElem?_getD]
        · rw [if_neg (by simp; omega), if_neg hj]
      have hH : Go.Sort.Holds (Value.int .i64) w (E.blk o) (E.off o + i) xs.toArray := by
        intro j hj
        have hj' : j < xs.length := by simpa using hj
        have hc : E.off o + i + j < C.size := by omega
        have h4 := c3 (i + j) (by omega)
        have h5 := g5 j hj'
        rw [← Nat.add_assoc] at h4
        simp [List.getD_eq_getElem?_getD, h5, Array.getD_eq_getD_getElem?, hc] at h4
        refine ⟨?_, ?_⟩
        · simp only [World.cell?, c1]
          rw [Array.getElem?_eq_getElem hc]
          generalize C[E.off o + i + j] = u at h4
          cases h4
          simp [hj']
        · simp [World.frozen?, c1]
      refine (Any.slices_Reverse_int Ly (E.blk o) (E.off o + i) sl xs w hH (by omega)).mono ?_
      rintro e w' ⟨rfl, m, rfl⟩
      have step1 := step_put (w' := Go.Sort.putRow (Value.int .i64) (Sort.ahead w m) (E.blk o) (E.off o + i) (xs.reverse).toArray) hr o (.cells (putCells cs i (xs.reverse.map (.int .i64))) true ex 1) hD hown (by simp)
        (fun b hb => by
          simp only [Go.Sort.putRow, Go.Sort.mapBlock, Sort.heap_ahead, Array.getElem?_modify]
          rw [if_neg (fun e => hb e.symm)]) rfl rfl ⟨rfl, by simp [Go.Sort.putRow, Go.Sort.mapBlock, Sort.ahead]⟩
        ⟨Go.Sort.putCells (Value.int .i64) (E.off o + i) xs.reverse.toArray C, ty, (0, 0), by simp [Go.Sort.putRow, Go.Sort.mapBlock, Array.getElem?_modify, c1, Go.Sort.onCells], by rw [hpl]; simp only [Go.Sort.putCells, Array.size_mapIdx]; exact c2, fun j hj => by
          rw [hpl] at hj
          rw [putCells_getD (by simp; omega), cell j (by omega)]
          simp only [List.length_map, List.length_reverse]
          by_cases hij : i ≤ j ∧ j < i + xs.length
          · rw [if_pos hij, if_pos hij]
            have e2 : j - i < xs.reverse.length := by simp; omega
            rw [List.getD_eq_getElem?_getD, List.getElem?_map, List.getElem?_eq_getElem e2, List.getD_eq_getElem?_getD, List.getElem?_eq_getElem e2]
            exact .int _ _
          · rw [if_neg hij, if_neg hij]; exact c3 j hj, fun j hj => by
          rw [hpl] at hj
          rw [putCells_getD (by simp; omega)]
          simp only [List.length_map, List.length_reverse]
          by_cases hij : i ≤ j ∧ j < i + xs.length
          · rw [if_pos hij]
            have e2 : j - i < xs.reverse.length := by simp; omega
            rw [List.getD_eq_getElem?_getD, List.getElem?_map, List.getElem?_eq_getElem e2]
            rfl
          · rw [if_neg hij]; exact c4 j hj, fun _ => ⟨rfl, c7⟩, c6⟩
      obtain ⟨s1, r1⟩ := step1
      exact ⟨E, _, rfl, s1, r1, .tuple _ _ rfl (fun i hi => absurd hi (by simp))⟩
    · intro a ha hn
      exact ha.wr (S := fun i => i = o) (Wr.put (S := fun i => i = o) (Wr.refl _ h) (o := o) rfl (fun _ => rfl)) (fun j hj => by have := hn j (hj ▸ gS); omega)
    · exact (Upd.refl S h).put gS _
end Go.Eng
namespace Go.Proofs
open Go.Shelf
def Revs.lays112_ren : Go.Shelf.Ren := ⟨fun | 112 => 214 | n => n, fun | 28 => 24 | 3 => 3 | 4 => 4 | 0 => 0 | n => n, fun | n => n⟩
theorem Revs.lays112 : Go.Proofs.Lays.n112 Try.prog Revs.lays112_ren := {
  mixed := by kernel_rfl
  f112 := Try.func214.trans (congrArg some (by kernel_rfl))
  t0 := Try.underlying0
  a0 := Try.isAgg0
  z0 := Try.sizeOf0
  v0 := Try.zeroValue0
  t3 := Try.underlying3
  a3 := Try.isAgg3
  z3 := Try.sizeOf3
  v3 := Try.zeroValue3
  t4 := Try.underlying4
  a4 := Try.isAgg4
  z4 := Try.sizeOf4
  v4 := Try.zeroValue4
  t28 := Try.underlying24
  a28 := Try.isAgg24
  z28 := Try.sizeOf24
  v28 := Try.zeroValue24 }
end Go.Proofs
namespace Go.Proofs.Ytnncipcldbopgaa
set_option linter.unusedSimpArgs false
set_option linter.unusedVariables false
set_option maxHeartbeats 4000000
open Go Go.Eng
attribute [local irreducible] WD RunD PreD Runs CallOK
theorem irowsA_lit {n : Nat} {h : Hp} {o : Nat} {ex : Bool} (h1 : n ≤ o) (h2 : o < h.next) (h3 : h.get o = .cells [] true ex 1) : IRowsA n h (.slice (some ⟨o, 0, none⟩) 0 0) [] :=
  .inr ⟨o, ex, [], rfl, h1, h2, h3, .nil _ _ _⟩
theorem appP {n : Nat} {h0 h : Hp} {v : Value} {L : List (List Int)} (hs : IRowsA n h v L) (a b : Int) (hl : L.length < 2 ^ 39) (hn : n ≤ h.next) (hA : Adds h0 h) (h0n : h0.next ≤ n) :
    ∃ v' h', appendD Try.prog 83 83 v (.slice (some ⟨h.next + 1, 0, none⟩) 1 1) ((h.alloc (.cells [.int .i64 a, .int .i64 b] true true 1)).alloc (.cells [.slice (some ⟨h.next, 0, none⟩) 2 2] true true 1)) = some (v', h') ∧ IRowsA n h' v' (L ++ [[a, b]]) ∧ Adds h0 h' ∧ h.next < h'.next ∧ ∀ o, o < h.next → o < n → h'.get o = h.get o := by
  have k1 : Adds h (h.alloc (.cells [.int .i64 a, .int .i64 b] true true 1)) := (by first | exact aK | exact kK)
  obtain ⟨v', h', g1, g2, g3, g4, g5⟩ := appR (h := h.alloc (.cells [.int .i64 a, .int .i64 b] true true 1)) (u := .slice (some ⟨h.next, 0, none⟩) 2 2) (r := [a, b]) hs k1.1 (IntsO.mk (xs := [a, b]) (ex := true) (show Btw h.next _ h.next from ⟨Nat.le_refl _, by simp⟩) (by simp) (by simp) (by simp)) (by omega) hn (hA.trans k1) h0n
  exact ⟨v', h', g1, g2, g3, by simp at g4; omega, fun o ho hon => by rw [g5 o (by simp; omega) hon]; simp [Nat.ne_of_lt ho]⟩
def lateJ (T D : List Int) (k : Nat) : List Job := (List.range k).map fun i => ⟨T.getD i 0, 1, -D.getD i 0⟩
def turnR (L : List (List Int)) : List (List Int) := L.map fun p => [p.getD 1 0, p.getD 0 0]
def givenB (N : Int) (L : List (List Int)) (T D : List Int) : Bool := sizeB N && (pairsB N L && (decide ((T.length : Int) = N) && (decide ((D.length : Int) = N) && (decide (∀ x ∈ T, 1 ≤ x ∧ x ≤ 9) && decide (∀ x ∈ D, 0 ≤ x ∧ x ≤ 100)))))
noncomputable def lateB (N : Int) (L : List (List Int)) (T D : List Int) : Bool := givenB N L T D && ordOK N (turnR L)
noncomputable def lateR (N : Int) (L : List (List Int)) (T D : List Int) : List Int := if lateB N L T D = true then toN (greedN (costN (lateJ T D N.toNat)) (ordL N.toNat (turnR L)) N.toNat).reverse else []
theorem lateJ_succ (T D : List Int) (k : Nat) : lateJ T D (k + 1) = lateJ T D k ++ [⟨T.getD k 0, 1, -D.getD k 0⟩] := by simp [lateJ, List.range_succ]
@[simp] theorem lateJ_len (T D : List Int) (k : Nat) : (lateJ T D k).length = k := by simp [lateJ]
theorem turnR_succ (L : List (List Int)) {k : Nat} (h : k < L.length) : turnR (L.take (k + 1)) = turnR (L.take k) ++ [[L[k].getD 1 0, L[k].getD 0 0]] := by
  rw [List.take_succ_eq_append_getElem h]; unfold turnR; rw [List.map_append]; rfl
theorem lateJ_ok {T D : List Int} {n : Nat} (n7 : n ≤ 7) (hT : T.length = n) (hD : D.length = n) (h1 : ∀ x ∈ T, 1 ≤ x ∧ x ≤ 9) (h2 : ∀ x ∈ D, 0 ≤ x ∧ x ≤ 100) : JobsOK (lateJ T D n) where
  n7 := by simpa using n7
  ok k hk := by
    have hk' : k < n := by simpa using hk
    have e : jobAt (lateJ T D n) k = ⟨T[k], 1, -D[k]⟩ := by
      rw [jobAt_eq hk]; simp [lateJ, List.getD_eq_getElem?_getD, show k < T.length by omega, show k < D.length by omega]
    have a := h1 _ (List.getElem_mem (show k < T.length by omega))
    have b := h2 _ (List.getElem_mem (show k < D.length by omega))
    rw [e]
    unfold jobOK
    rw [decide_eq_true_eq]
    refine ⟨a, ⟨?_, ?_⟩, ?_, ?_⟩ <;> simp only <;> omega
theorem reverse_ok (h : Hp) (v : Value) (xs : List Int) (S : Nat → Prop) (hv : IntsO S h v xs) (hl : xs.length < 2 ^ 40) :
    ∃ h', CallOK Try.prog 214 #[v] h (.tuple #[]) h' ∧ IntsO S h' v xs.reverse ∧ h'.next = h.next ∧ (∀ a, Adds a h → (∀ o, S o → a.next ≤ o) → Adds a h') ∧ Upd S h h' :=
  reverseO_ok Revs.lays112 hv hl
theorem toN_reverse (xs : List Nat) : (toN xs).reverse = toN xs.reverse := by simp [toN]
end Go.Proofs.Ytnncipcldbopgaa
