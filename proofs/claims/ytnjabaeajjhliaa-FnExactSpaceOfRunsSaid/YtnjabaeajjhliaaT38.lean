/- The states behind runs, by the reference. -/
import Derived.Test.YtnjabaeajjhliaaT37
namespace Go.Proofs.Ytnjabaeajjhliaa
set_option linter.unusedSimpArgs false
set_option linter.unusedVariables false
set_option maxHeartbeats 4000000
open Go Go.Eng
attribute [local irreducible] WD RunD PreD Runs CallOK

theorem zarr3s (a b c : Value) : zarr #[a, b, c] 3 = #[a, b, c] := by
  unfold zarr
  apply Array.ext
  · simp
  · intro i h1 h2
    have : i = 0 ∨ i = 1 ∨ i = 2 := by simp at h2; omega
    rcases this with rfl | rfl | rfl <;> simp
theorem GL.weak {α : Type} {m n n' : Nat} {R : (Nat → Prop) → Hp → List Value → α → Prop} (hR : Steady R) {h : Hp} {v : Value} {S : List α} (hs : GL m R n' h v S) (hn : n ≤ n') : GL m R n h v S := by
  rcases hs with ⟨rfl, rfl⟩ | ⟨o, ex, cs, rfl, h1, h2, h3, h4, h5⟩
  · exact .inl ⟨rfl, rfl⟩
  · exact .inr ⟨o, ex, cs, rfl, by omega, h2, h3, h4, fun k hk => hR.mono _ _ _ _ _ _ (h5 k hk) (fun o ho => ⟨by omega, ho.2⟩) (Same.refl _ _)⟩
theorem waStates_ok {L : List (List Int)} {A X E : List Int} {R k : Nat} (f : FinR L A X E R) (hs : Shape L A.length) (ho : Ok L A) (hR : R ≤ 60) (hk : k < R) (h : Hp) (v w : Value) (S : List RSt) (B : Nat) (hv : Chips h v L A) (hw : GL 3 stR B h w S) (hS : StI L A k S) :
    ∃ v' h', CallOK Try.prog 105 #[v, w] h v' h' ∧ Adds h h' ∧ GL 3 stR h.next h' v' (stepS L S) := by
  refine callY_L (args := [v, w]) 82 _ [.tmp 4] Try.func105 rfl rfl rfl ?_
  have hv0 := hv
  obtain ⟨a, b, rfl, hL, hA⟩ := hv
  have hSl := hS.small hs (by omega)
  refine WD_first ?_
  try simp (disch := first | omega | (simp; done) | fail) [wrap64c, if_pos, if_neg]
  refine stopK_heap fun h0 q_h0 => ?_
  refine stopK_go ?_
  have g_h0 : h0.get h.next = .cells [a, b] true true 1 := by simp [q_h0]
  have k_h0 : Adds h h0 := by rw [q_h0]; exact (by first | exact aK | exact kK)
  have n_h0 : h.next < h0.next := by simp [q_h0]; try omega
  have lS := hw.lenD
  try simp (disch := first | omega | (simp; done) | fail) [wrap64c, if_pos, if_neg, g_h0, lS]
  refine WD_loopC [2, 12, 13] (fun m tm h' => ∃ j u, m = S.length - j ∧ tm 5 = u ∧ tm 14 = .int .i64 (j : Int) ∧ (j ≤ S.length) ∧ (Adds h h') ∧ (h0.next ≤ h'.next) ∧ (h'.get h.next = .cells [a, b] true true 1) ∧ (GL 3 stR h0.next h' u ((S.take j).foldl (fun out s => moveS L s out (movesL L s.b)) []))) _ ⟨0, .slice none 0 0, rfl, (by simp (disch := first | omega | (simp; done) | fail) [wrap64c, if_pos, if_neg, g_h0, lS]), (by simp (disch := first | omega | (simp; done) | fail) [wrap64c, if_pos, if_neg, g_h0, lS]), (by first | omega | assumption | (simp (disch := first | omega | (simp; done) | fail) [wrap64c, if_pos, if_neg, g_h0, lS] <;> omega)), (by first | exact aK | exact kK), (by first | omega | assumption | (simp (disch := first | omega | (simp; done) | fail) [wrap64c, if_pos, if_neg, g_h0, lS] <;> omega)), g_h0, (.nil _ _)⟩ ?_
  rintro m tm h' hFr ⟨j, u, rfl, e5, e14, hj, ha, hn, gc, hg⟩
  simp only [FrameL] at hFr
  obtain ⟨f2_0, f12_0, f13_0, -⟩ := hFr
  try simp (disch := first | omega | (simp; done) | fail) [wrap64c, if_pos, if_neg, g_h0, lS] at f2_0 f12_0 f13_0
  have e2 := f2_0
  have e12 := f12_0
  have e13 := f13_0
  rename Hp => hq
  have hS1 : ∀ s ∈ S.take j, Rn L A s.x s.b ∧ s.x.sum = k := fun s hm => hS.rn s (List.mem_of_mem_take hm)
  have hO := (stepS_inv f hs hk (fun _ => 0) hS1 (StI.nil L A (k + 1))).1
  have lu := hg.lenD
  by_cases hlt : j < S.length
  · obtain ⟨os, cs, exs, y, z, y1, y2, y3, y4, y5, ⟨y6, y7, y8⟩, y9, y10⟩ := stG_at hw hlt
    have y3q : hq.get os = .cells cs true exs 3 := by rw [ha.1.2 _ y2.2]; exact y3
    have y1' := y1
    have hj3 : j * 3 + 3 ≤ S.length * 3 := by omega
    have nty := y9.ints.nt
    have csy := y9.ints.cs
    have ntz := y10.ints.nt
    have csz := y10.ints.cs
    try simp (disch := first | omega | (simp; done) | fail) [wrap64c, if_pos, if_neg, g_h0, lS, e2, e5, e12, e13, e14, gc, lu, hlt, y3q, y1', y4, y5, y6, y7, y8, hj3, nty, csy, ntz, csz, putCells]
    first | refine WY_heap fun h1 q_h1 => ?_ | refine callG_heap fun h1 q_h1 => ?_ | refine callP_heap fun h1 q_h1 => ?_ | refine RY_heap fun h1 q_h1 => ?_ | refine PY_heap fun h1 q_h1 => ?_ | refine doneY_heap fun h1 q_h1 => ?_ | refine loopK_heap fun h1 q_h1 => ?_ | refine thenY_heap fun h1 q_h1 => ?_ | refine thenM_heap fun h1 q_h1 => ?_
    have k1 : Adds hq h1 := by rw [q_h1]; exact (by first | exact aK | exact kK)
    have n1 : h1.next = hq.next + 1 := by simp [q_h1]
    have g1 : h1.get hq.next = .cells [y, z, .int .i64 ((capN S[j].w : Nat) : Int)] true true 1 := by simp [q_h1]
    have gc1 : h1.get h.next = .cells [a, b] true true 1 := by rw [k1.1.2 _ (by omega)]; exact gc
    obtain ⟨hrn, hsx⟩ := hS.rn _ (List.getElem_mem hlt)
    have hlen := hrn.len
    have hoB := hrn.ok ho
    have hsb : Shape L S[j].b.length := hoB.sh
    have h5 := hsb.le
    obtain ⟨q, h2, hc2, ha2, hq2⟩ := waMoves_ok h1 (.agg #[a, b]) z L A S[j].b (hv0.keep (ha.trans k1).1) (y10.ints.keep (ha.trans k1).1) hsb
    have n2 := ha2.1.1
    have g2 : h2.get hq.next = .cells [y, z, .int .i64 ((capN S[j].w : Nat) : Int)] true true 1 := by rw [ha2.1.2 _ (by omega)]; exact g1
    have gc2 : h2.get h.next = .cells [a, b] true true 1 := by rw [ha2.1.2 _ (by omega)]; exact gc1
    obtain ⟨M, hM⟩ : ∃ M, M = movesL L S[j].b := ⟨_, rfl⟩
    have hMl : M.length ≤ 5 := by rw [hM]; have := movesL_length L S[j].b; omega
    rw [← hM] at hq2
    have lM := hq2.lenD
    obtain ⟨P0, hP0⟩ : ∃ P, P = (S.take j).foldl (fun out s => moveS L s out (movesL L s.b)) [] := ⟨_, rfl⟩
    rw [← hP0] at hg hO
    have A2 : Adds h h2 := (ha.trans k1).trans ha2
    try simp (disch := first | omega | (simp; done) | fail) [wrap64c, if_pos, if_neg, g_h0, lS, e2, e5, e12, e13, e14, gc, lu, hlt, y3q, y1', y4, y5, y6, y7, y8, hj3, nty, csy, ntz, csz, g1, gc1, lM]
    refine callG_c (by simp) (by simp) ?ha (hc2) ?_
    (case ha => simp (disch := first | omega | (simp; done) | fail) [wrap64c, if_pos, if_neg, g_h0, lS, e2, e5, e12, e13, e14, gc, lu, hlt, y3q, y1', y4, y5, y6, y7, y8, hj3, nty, csy, ntz, csz, g1, gc1, lM])
    try simp (disch := first | omega | (simp; done) | fail) [wrap64c, if_pos, if_neg, g_h0, lS, e2, e5, e12, e13, e14, gc, lu, hlt, y3q, y1', y4, y5, y6, y7, y8, hj3, nty, csy, ntz, csz, g1, gc1, lM]
    refine WD_loopC [2, 7, 12, 13, 14, 21, 22] (fun m tm h' => ∃ e u1, m = M.length - e ∧ tm 5 = u1 ∧ tm 23 = .int .i64 (e : Int) ∧ (e ≤ M.length) ∧ (Adds h h') ∧ (Same (fun o => hq.next ≤ o ∧ o < h2.next) h2 h') ∧ (h'.get h.next = .cells [a, b] true true 1) ∧ (GL 3 stR h0.next h' u1 (moveS L S[j] P0 (M.take e))) ∧ (∀ o, ObjIn u1 o → o < hq.next ∨ h2.next ≤ o)) _ ⟨0, u, rfl, (by simp (disch := first | omega | (simp; done) | fail) [wrap64c, if_pos, if_neg, g_h0, lS, e2, e5, e12, e13, e14, gc, lu, hlt, y3q, y1', y4, y5, y6, y7, y8, hj3, nty, csy, ntz, csz, g1, gc1, lM]), (by simp (disch := first | omega | (simp; done) | fail) [wrap64c, if_pos, if_neg, g_h0, lS, e2, e5, e12, e13, e14, gc, lu, hlt, y3q, y1', y4, y5, y6, y7, y8, hj3, nty, csy, ntz, csz, g1, gc1, lM]), (by first | omega | assumption | (simp (disch := first | omega | (simp; done) | fail) [wrap64c, if_pos, if_neg, g_h0, lS, e2, e5, e12, e13, e14, gc, lu, hlt, y3q, y1', y4, y5, y6, y7, y8, hj3, nty, csy, ntz, csz, g1, gc1, lM] <;> omega)), A2, (Same.refl _ _), gc2, ((hg.keep stR_steady k1.1).keep stR_steady ha2.1), (fun o ho => .inl (hg.obj ho).2)⟩ ?_
    rintro m tm h' hFr ⟨e, u1, rfl, e5, e23, he, ha3, hm3, gc3, hg3, ho3⟩
    simp only [FrameL] at hFr
    obtain ⟨f2_1, f7_1, f12_1, f13_1, f14_1, f21_1, f22_1, -⟩ := hFr
    try simp (disch := first | omega | (simp; done) | fail) [wrap64c, if_pos, if_neg, g_h0, lS, e2, e5, e12, e13, e14, gc, lu, hlt, y3q, y1', y4, y5, y6, y7, y8, hj3, nty, csy, ntz, csz, g1, gc1, lM] at f2_1 f7_1 f12_1 f13_1 f14_1 f21_1 f22_1
    have e2 := f2_1
    have e7 := f7_1
    have e12 := f12_1
    have e13 := f13_1
    have e14 := f14_1
    have e21 := f21_1
    have e22 := f22_1
    rename Hp => hi
    have n3 := hm3.1
    have g3 : hi.get hq.next = .cells [y, z, .int .i64 ((capN S[j].w : Nat) : Int)] true true 1 := by rw [hm3.2 _ ⟨Nat.le_refl _, by omega⟩ (by omega)]; exact g2
    have hq3 := hq2.same ⟨hm3.1, fun o ho hl => hm3.2 o ⟨by have := ho.1; omega, ho.2⟩ hl⟩
    by_cases hle : e < M.length
    · obtain ⟨i, hi1, hiB, hiC, hxi, hr2, hs2, hR2⟩ := f.next hs hrn (show M[e] ∈ movesL L S[j].b by rw [← hM]; exact List.getElem_mem hle)
      have hi1' := hi1
      obtain ⟨o_x, i_x, c_x, cs_x, own_x, ex_x, es_x, q_x, b_x, g_x, l_x, r_x⟩ := (hq3.ints).open ((by omega))
      have z_x : ∀ h2 : i_x < cs_x.length, cs_x[i_x] = _ := fun h2 => r_x 0 ((by omega)) h2
      try simp (disch := first | omega | (simp; done) | fail) [wrap64c, if_pos, if_neg, g_h0, lS, e2, e5, e12, e13, e14, gc, lu, hlt, y3q, y1', y4, y5, y6, y7, y8, hj3, nty, csy, ntz, csz, g1, gc1, lM, e7, e21, e22, e23, gc3, g3, hle, hi1', q_x, g_x, l_x, r_x, z_x]
      obtain ⟨u4, h4, hc4, ha4, hu4, _⟩ := l1Own_ok hi y S[j].x (y9.ints.keep ha3.1) (by omega)
      have n4 := ha4.1.1
      refine callG_c (by simp) (by simp) ?ha (hc4) ?_
      (case ha => simp (disch := first | omega | (simp; done) | fail) [wrap64c, if_pos, if_neg, g_h0, lS, e2, e5, e12, e13, e14, gc, lu, hlt, y3q, y1', y4, y5, y6, y7, y8, hj3, nty, csy, ntz, csz, g1, gc1, lM, e7, e21, e22, e23, gc3, g3, hle, hi1', q_x, g_x, l_x, r_x, z_x])
      have nt4 := hu4.nt
      have cs4 := hu4.cs
      have g4 : h4.get hq.next = .cells [y, z, .int .i64 ((capN S[j].w : Nat) : Int)] true true 1 := by rw [ha4.1.2 _ (by omega)]; exact g3
      have gc4 : h4.get h.next = .cells [a, b] true true 1 := by rw [ha4.1.2 _ (by omega)]; exact gc3
      have hxb := hrn.small (by omega) _ (List.getElem_mem hxi)
      obtain ⟨oc, ic, cc, ccs, exc, qc, Sc, bc, ggc, lc, rc⟩ := hu4.open (by omega)
      have zcc := rc i hxi
      try simp (disch := first | omega | (simp; done) | fail) [wrap64c, if_pos, if_neg, g_h0, lS, e2, e5, e12, e13, e14, gc, lu, hlt, y3q, y1', y4, y5, y6, y7, y8, hj3, nty, csy, ntz, csz, g1, gc1, lM, e7, e21, e22, e23, gc3, g3, hle, hi1', q_x, g_x, l_x, r_x, z_x, nt4, cs4, qc, ggc, lc, zcc]
      have hwr := hu4.write qc hxi ggc (S[j].x[i] + 1)
      first | refine WY_heap fun h5 q_h5 => ?_ | refine callG_heap fun h5 q_h5 => ?_ | refine callP_heap fun h5 q_h5 => ?_ | refine RY_heap fun h5 q_h5 => ?_ | refine PY_heap fun h5 q_h5 => ?_ | refine doneY_heap fun h5 q_h5 => ?_ | refine loopK_heap fun h5 q_h5 => ?_ | refine thenY_heap fun h5 q_h5 => ?_ | refine thenM_heap fun h5 q_h5 => ?_
      have eh5 : h5 = h4.put oc (.cells (putCells ccs (ic + i) [.int .i64 (S[j].x[i] + 1)]) true exc 1) := by first | exact q_h5 | (rw [q_h5])
      rw [← eh5] at hwr
      have Sc1 := Sc.1
      have Sc2 := Sc.2
      have A4 := ha3.trans ha4
      have n5 : h5.next = h4.next := by rw [eh5]; simp
      have K5 : Keeps hi h5 := ⟨by omega, fun o ho => by rw [eh5]; simp [show o ≠ oc by omega]; exact ha4.1.2 o ho⟩
      have A5 : Adds h h5 := by rw [eh5]; exact (by first | exact aK | exact kK)
      have g5 : h5.get hq.next = .cells [y, z, .int .i64 ((capN S[j].w : Nat) : Int)] true true 1 := by rw [K5.2 _ (by omega)]; exact g3
      have gc5 : h5.get h.next = .cells [a, b] true true 1 := by rw [K5.2 _ (by omega)]; exact gc3
      have hg5 := hg3.keep stR_steady K5
      obtain ⟨P1, hP1⟩ : ∃ P, P = moveS L S[j] P0 (M.take e) := ⟨_, rfl⟩
      obtain ⟨X1, hX1⟩ : ∃ x, x = S[j].x.set i (S[j].x[i] + 1) := ⟨_, rfl⟩
      have hO1 : StI L A (k + 1) P1 := by
        rw [hP1]
        exact (moveS_inv f hs hrn hsx hk (fun _ => 0) (fun m hm => by rw [← hM]; exact List.mem_of_mem_take hm) hO).1
      have hPl := hO1.small hs (by omega)
      rw [← hP1] at hg5 hg3
      rw [← hX1] at hwr hr2 hs2
      have lu1 := hg5.lenD
      have nt5 := hwr.nt
      have cs5 := hwr.cs
      refine WD_loopC [2, 5, 7, 9, 10, 12, 13, 14, 21, 22, 23] (fun m tm h' => ∃ kk, m = P1.length - kk ∧ h5 = h' ∧ tm 11 = .int .i64 (kk : Int) ∧ (kk ≤ P1.length) ∧ (∀ c (hc : c < P1.length), c < kk → P1[c].x ≠ X1)) _ ⟨0, rfl, rfl, (by simp (disch := first | omega | (simp; done) | fail) [wrap64c, if_pos, if_neg, g_h0, lS, e2, e5, e12, e13, e14, gc, lu, hlt, y3q, y1', y4, y5, y6, y7, y8, hj3, nty, csy, ntz, csz, g1, gc1, lM, e7, e21, e22, e23, gc3, g3, hle, hi1', q_x, g_x, l_x, r_x, z_x, nt4, cs4, qc, ggc, lc, zcc, g5, gc5, lu1, nt5, cs5]), (by first | omega | assumption | (simp (disch := first | omega | (simp; done) | fail) [wrap64c, if_pos, if_neg, g_h0, lS, e2, e5, e12, e13, e14, gc, lu, hlt, y3q, y1', y4, y5, y6, y7, y8, hj3, nty, csy, ntz, csz, g1, gc1, lM, e7, e21, e22, e23, gc3, g3, hle, hi1', q_x, g_x, l_x, r_x, z_x, nt4, cs4, qc, ggc, lc, zcc, g5, gc5, lu1, nt5, cs5] <;> omega)), (fun c hc h0 => by omega)⟩ ?_
      rintro m tm h' hFr ⟨kk, rfl, rfl, e11, hkk, hx5⟩
      simp only [FrameL] at hFr
      obtain ⟨f2_2, f5_2, f7_2, f9_2, f10_2, f12_2, f13_2, f14_2, f21_2, f22_2, f23_2, -⟩ := hFr
      try simp (disch := first | omega | (simp; done) | fail) [wrap64c, if_pos, if_neg, g_h0, lS, e2, e5, e12, e13, e14, gc, lu, hlt, y3q, y1', y4, y5, y6, y7, y8, hj3, nty, csy, ntz, csz, g1, gc1, lM, e7, e21, e22, e23, gc3, g3, hle, hi1', q_x, g_x, l_x, r_x, z_x, nt4, cs4, qc, ggc, lc, zcc, g5, gc5, lu1, nt5, cs5] at f2_2 f5_2 f7_2 f9_2 f10_2 f12_2 f13_2 f14_2 f21_2 f22_2 f23_2
      have e2 := f2_2
      have e5 := f5_2
      have e7 := f7_2
      have e9 := f9_2
      have e10 := f10_2
      have e12 := f12_2
      have e13 := f13_2
      have e14 := f14_2
      have e21 := f21_2
      have e22 := f22_2
      have e23 := f23_2
      obtain ⟨B1, hB1⟩ : ∃ x, x = moveA L S[j].b i := ⟨_, rfl⟩
      have hsn : moveS L S[j] P0 (M.take (e + 1)) = insS P1 X1 B1 S[j].w := by
        rw [List.take_succ_eq_append_getElem hle, moveS_snoc, ← hP1, hi1, hX1, hB1]
        simp [hxi]
      have hm5 : Same (fun o => hq.next ≤ o ∧ o < h2.next) h2 h5 := hm3.trans (.of_keeps K5)
      obtain ⟨w2, hw2⟩ : ∃ w, w = capN S[j].w := ⟨_, rfl⟩
      have hw2l := capN_le S[j].w
      rw [← hw2] at g5 hw2l
      by_cases hkl : kk < P1.length
      · obtain ⟨oo, ds, exo, p, r, z1, z2, z3, z4, z5, ⟨z6, z7, z8⟩, z9, z10⟩ := stG_at hg5 hkl
        have z1' := z1
        have hk3 : kk * 3 + 3 ≤ P1.length * 3 := by omega
        have hk4 : kk * 3 < ds.length := by omega
        have w6 : ∀ h2 : kk * 3 < ds.length, ds[kk * 3] = p := fun h2 => (List.getElem?_eq_some_iff.1 z6).2
        try simp (disch := first | omega | (simp; done) | fail) [wrap64c, if_pos, if_neg, g_h0, lS, e2, e5, e12, e13, e14, gc, lu, hlt, y3q, y1', y4, y5, y6, y7, y8, hj3, nty, csy, ntz, csz, g1, gc1, lM, e7, e21, e22, e23, gc3, g3, hle, hi1', q_x, g_x, l_x, r_x, z_x, nt4, cs4, qc, ggc, lc, zcc, g5, gc5, lu1, nt5, cs5, e9, e10, e11, hkl, z1', z3, z4, z5, z6, z7, z8, hk3, hk4, w6]
        refine callG_c (by simp) (by simp) ?ha (l1SameD_ok h5 p u4 P1[kk].x X1 z9.ints hwr.ints) ?_
        (case ha => simp (disch := first | omega | (simp; done) | fail) [wrap64c, if_pos, if_neg, g_h0, lS, e2, e5, e12, e13, e14, gc, lu, hlt, y3q, y1', y4, y5, y6, y7, y8, hj3, nty, csy, ntz, csz, g1, gc1, lM, e7, e21, e22, e23, gc3, g3, hle, hi1', q_x, g_x, l_x, r_x, z_x, nt4, cs4, qc, ggc, lc, zcc, g5, gc5, lu1, nt5, cs5, e9, e10, e11, hkl, z1', z3, z4, z5, z6, z7, z8, hk3, hk4, w6])
        by_cases hsame : P1[kk].x = X1
        · have hsb2 : decide (P1[kk].x = X1) = true := by simp [hsame]
          have hix : ixS P1 X1 = kk := ixS_of (by omega) hx5 fun _ => hsame
          obtain ⟨P6, hP6⟩ : ∃ P, P = putS P1 X1 B1 := ⟨_, rfl⟩
          have hPP : P6 = P1 := by rw [hP6]; unfold putS; rw [if_neg (by omega)]
          have hg6 := hg5
          rw [← hPP] at hg6
          have gc6 := gc5
          have hm6 := hm5
          have A6 := A5
          have ho6 := ho3
          have hkn : ((kk : Int) == (P1.length : Int)) = false := by simp; omega
          try simp (disch := first | omega | (simp; done) | fail) [wrap64c, if_pos, if_neg, g_h0, lS, e2, e5, e12, e13, e14, gc, lu, hlt, y3q, y1', y4, y5, y6, y7, y8, hj3, nty, csy, ntz, csz, g1, gc1, lM, e7, e21, e22, e23, gc3, g3, hle, hi1', q_x, g_x, l_x, r_x, z_x, nt4, cs4, qc, ggc, lc, zcc, g5, gc5, lu1, nt5, cs5, e9, e10, e11, hkl, z1', z3, z4, z5, z6, z7, z8, hk3, hk4, w6, hsb2, hkn]
          have hlt6 : kk < P6.length := by rw [hP6, ← hix]; exact putS_len _ _ _
          obtain ⟨oo6, ds6, exo6, p6, r6, z1, z2, z3, z4, z5, ⟨z6, z7, z8⟩, z9, z10⟩ := stG_at hg6 hlt6
          have z1' := z1
          have hk3 : kk * 3 + 3 ≤ P6.length * 3 := by omega
          have hk5 : kk * 3 + 2 < ds6.length := by omega
          have w8 : ∀ h2 : kk * 3 + 2 < ds6.length, ds6[kk * 3 + 2] = .int .i64 ((capN P6[kk].w : Nat) : Int) := fun h2 => (List.getElem?_eq_some_iff.1 z8).2
          have hpc : ∀ x, putCells ds6 (kk * 3 + 2) [x] = ds6.set (kk * 3 + 2) x := fun x => by rw [List.set_eq_take_append_cons_drop, if_pos hk5]; simp [putCells]
          have hobj : ObjIn u1 oo6 := by rw [z1]; rfl
          have hoo := ho6 oo6 hobj
          have hadd := stG_add (w := S[j].w) hg6 hlt6 z1 z3
          have hcap : capN (P6[kk].w + S[j].w) = capN (capN P6[kk].w + w2) := by rw [hw2, capN_add]
          have hw1l := capN_le P6[kk].w
          rw [hcap] at hadd
          obtain ⟨w1, hw1⟩ : ∃ w, w = capN P6[kk].w := ⟨_, rfl⟩
          have hw1' := hw1.symm
          rw [← hw1] at hadd hw1l
          have hif : (if (w1 : Int) + (w2 : Int) < 1000000001 then (w1 : Int) + (w2 : Int) else 1000000001) = ((capN (w1 + w2) : Nat) : Int) := by unfold capN; split <;> omega
          have hlc := l1LeastD_ok h5 ((w1 : Int) + (w2 : Int)) 1000000001
          rw [hif] at hlc
          try simp (disch := first | omega | (simp; done) | fail) [wrap64c, if_pos, if_neg, g_h0, lS, e2, e5, e12, e13, e14, gc, lu, hlt, y3q, y1', y4, y5, y6, y7, y8, hj3, nty, csy, ntz, csz, g1, gc1, lM, e7, e21, e22, e23, gc3, g3, hle, hi1', q_x, g_x, l_x, r_x, z_x, nt4, cs4, qc, ggc, lc, zcc, g5, gc5, lu1, nt5, cs5, e9, e10, e11, hkl, z1', z3, z4, z5, z6, z7, z8, hk3, hk4, w6, hsb2, hkn, hk5, w8, hpc, hw1']
          refine WD_drawC 11 rfl (by kernel_rfl) ?_
          try simp (disch := first | omega | (simp; done) | fail) [wrap64c, if_pos, if_neg, g_h0, lS, e2, e5, e12, e13, e14, gc, lu, hlt, y3q, y1', y4, y5, y6, y7, y8, hj3, nty, csy, ntz, csz, g1, gc1, lM, e7, e21, e22, e23, gc3, g3, hle, hi1', q_x, g_x, l_x, r_x, z_x, nt4, cs4, qc, ggc, lc, zcc, g5, gc5, lu1, nt5, cs5, e9, e10, e11, hkl, z1', z3, z4, z5, z6, z7, z8, hk3, hk4, w6, hsb2, hkn, hk5, w8, hpc, hw1']
          refine callP_c (by simp) (by simp) ?ha (hlc) ?hadd ?_
          (case ha => simp (disch := first | omega | (simp; done) | fail) [wrap64c, if_pos, if_neg, g_h0, lS, e2, e5, e12, e13, e14, gc, lu, hlt, y3q, y1', y4, y5, y6, y7, y8, hj3, nty, csy, ntz, csz, g1, gc1, lM, e7, e21, e22, e23, gc3, g3, hle, hi1', q_x, g_x, l_x, r_x, z_x, nt4, cs4, qc, ggc, lc, zcc, g5, gc5, lu1, nt5, cs5, e9, e10, e11, hkl, z1', z3, z4, z5, z6, z7, z8, hk3, hk4, w6, hsb2, hkn, hk5, w8, hpc, hw1'])
          (case hadd => first | assumption | exact adds_self _ | (simp; done))
          try simp (disch := first | omega | (simp; done) | fail) [wrap64c, if_pos, if_neg, g_h0, lS, e2, e5, e12, e13, e14, gc, lu, hlt, y3q, y1', y4, y5, y6, y7, y8, hj3, nty, csy, ntz, csz, g1, gc1, lM, e7, e21, e22, e23, gc3, g3, hle, hi1', q_x, g_x, l_x, r_x, z_x, nt4, cs4, qc, ggc, lc, zcc, g5, gc5, lu1, nt5, cs5, e9, e10, e11, hkl, z1', z3, z4, z5, z6, z7, z8, hk3, hk4, w6, hsb2, hkn, hk5, w8, hpc, hw1']
          refine loopK_next _ ?hm ?hf ⟨e + 1, u1, rfl, (by simp (disch := first | omega | (simp; done) | fail) [wrap64c, if_pos, if_neg, g_h0, lS, e2, e5, e12, e13, e14, gc, lu, hlt, y3q, y1', y4, y5, y6, y7, y8, hj3, nty, csy, ntz, csz, g1, gc1, lM, e7, e21, e22, e23, gc3, g3, hle, hi1', q_x, g_x, l_x, r_x, z_x, nt4, cs4, qc, ggc, lc, zcc, g5, gc5, lu1, nt5, cs5, e9, e10, e11, hkl, z1', z3, z4, z5, z6, z7, z8, hk3, hk4, w6, hsb2, hkn, hk5, w8, hpc, hw1'] <;> omega), (by simp (disch := first | omega | (simp; done) | fail) [wrap64c, if_pos, if_neg, g_h0, lS, e2, e5, e12, e13, e14, gc, lu, hlt, y3q, y1', y4, y5, y6, y7, y8, hj3, nty, csy, ntz, csz, g1, gc1, lM, e7, e21, e22, e23, gc3, g3, hle, hi1', q_x, g_x, l_x, r_x, z_x, nt4, cs4, qc, ggc, lc, zcc, g5, gc5, lu1, nt5, cs5, e9, e10, e11, hkl, z1', z3, z4, z5, z6, z7, z8, hk3, hk4, w6, hsb2, hkn, hk5, w8, hpc, hw1'] <;> omega), (by first | omega | assumption | (simp (disch := first | omega | (simp; done) | fail) [wrap64c, if_pos, if_neg, g_h0, lS, e2, e5, e12, e13, e14, gc, lu, hlt, y3q, y1', y4, y5, y6, y7, y8, hj3, nty, csy, ntz, csz, g1, gc1, lM, e7, e21, e22, e23, gc3, g3, hle, hi1', q_x, g_x, l_x, r_x, z_x, nt4, cs4, qc, ggc, lc, zcc, g5, gc5, lu1, nt5, cs5, e9, e10, e11, hkl, z1', z3, z4, z5, z6, z7, z8, hk3, hk4, w6, hsb2, hkn, hk5, w8, hpc, hw1'] <;> omega)), (by have := A6; have := z2.1; exact (by first | exact aK | exact kK)), (hm6.put (fun q => by rcases hoo with hoo | hoo <;> omega) _), (by simp [show h.next ≠ oo6 by have := z2.1; omega]; exact gc6), ?c_hg3, ho6⟩
          (case hm => first | omega | (simp; omega))
          (case hf => simp [FrameL, g_h0, lS, e2, e5, e12, e13, e14, gc, lu, hlt, y3q, y1', y4, y5, y6, y7, y8, hj3, nty, csy, ntz, csz, g1, gc1, lM, e7, e21, e22, e23, gc3, g3, hle, hi1', q_x, g_x, l_x, r_x, z_x, nt4, cs4, qc, ggc, lc, zcc, g5, gc5, lu1, nt5, cs5, e9, e10, e11, hkl, z1', z3, z4, z5, z6, z7, z8, hk3, hk4, w6, hsb2, hkn, hk5, w8, hpc, hw1', f2_1, f7_1, f12_1, f13_1, f14_1, f21_1, f22_1])
          case c_hg3 =>
            exact (by
              rw [hsn]
              have e1 : insS P1 X1 B1 S[j].w = addS P6 kk S[j].w := by unfold insS; rw [hix, hP6]
              rw [e1]
              exact hadd)
        · have hsb2 : decide (P1[kk].x = X1) = false := by simp [hsame]
          try simp (disch := first | omega | (simp; done) | fail) [wrap64c, if_pos, if_neg, g_h0, lS, e2, e5, e12, e13, e14, gc, lu, hlt, y3q, y1', y4, y5, y6, y7, y8, hj3, nty, csy, ntz, csz, g1, gc1, lM, e7, e21, e22, e23, gc3, g3, hle, hi1', q_x, g_x, l_x, r_x, z_x, nt4, cs4, qc, ggc, lc, zcc, g5, gc5, lu1, nt5, cs5, e9, e10, e11, hkl, z1', z3, z4, z5, z6, z7, z8, hk3, hk4, w6, hsb2]
          refine loopK_next _ ?hm ?hf ⟨kk + 1, rfl, rfl, (by simp (disch := first | omega | (simp; done) | fail) [wrap64c, if_pos, if_neg, g_h0, lS, e2, e5, e12, e13, e14, gc, lu, hlt, y3q, y1', y4, y5, y6, y7, y8, hj3, nty, csy, ntz, csz, g1, gc1, lM, e7, e21, e22, e23, gc3, g3, hle, hi1', q_x, g_x, l_x, r_x, z_x, nt4, cs4, qc, ggc, lc, zcc, g5, gc5, lu1, nt5, cs5, e9, e10, e11, hkl, z1', z3, z4, z5, z6, z7, z8, hk3, hk4, w6, hsb2] <;> omega), (by first | omega | assumption | (simp (disch := first | omega | (simp; done) | fail) [wrap64c, if_pos, if_neg, g_h0, lS, e2, e5, e12, e13, e14, gc, lu, hlt, y3q, y1', y4, y5, y6, y7, y8, hj3, nty, csy, ntz, csz, g1, gc1, lM, e7, e21, e22, e23, gc3, g3, hle, hi1', q_x, g_x, l_x, r_x, z_x, nt4, cs4, qc, ggc, lc, zcc, g5, gc5, lu1, nt5, cs5, e9, e10, e11, hkl, z1', z3, z4, z5, z6, z7, z8, hk3, hk4, w6, hsb2] <;> omega)), ?c_hx5⟩
          (case hm => first | omega | (simp; omega))
          (case hf => simp [FrameL, g_h0, lS, e2, e5, e12, e13, e14, gc, lu, hlt, y3q, y1', y4, y5, y6, y7, y8, hj3, nty, csy, ntz, csz, g1, gc1, lM, e7, e21, e22, e23, gc3, g3, hle, hi1', q_x, g_x, l_x, r_x, z_x, nt4, cs4, qc, ggc, lc, zcc, g5, gc5, lu1, nt5, cs5, e9, e10, e11, hkl, z1', z3, z4, z5, z6, z7, z8, hk3, hk4, w6, hsb2, f2_2, f5_2, f7_2, f9_2, f10_2, f12_2, f13_2, f14_2, f21_2, f22_2, f23_2])
          case c_hx5 =>
            exact (fun c hc hck => by
              by_cases ec : c = kk
              · subst ec; exact hsame
              · exact hx5 c hc (by omega))
      · have hke : kk = P1.length := by omega
        have hix : ixS P1 X1 = kk := ixS_of (by omega) hx5 fun _ => by omega
        have hkn : ((kk : Int) == (P1.length : Int)) = true := by simp [hke]
        have hkl2 : ¬ (kk : Int) < (P1.length : Int) := by omega
        have hz3 : zarr #[Value.slice none 0 0, Value.slice none 0 0, Value.int .i64 0] 3 = #[Value.slice none 0 0, Value.slice none 0 0, Value.int .i64 0] := zarr3s _ _ _
        try simp (disch := first | omega | (simp; done) | fail) [wrap64c, if_pos, if_neg, g_h0, lS, e2, e5, e12, e13, e14, gc, lu, hlt, y3q, y1', y4, y5, y6, y7, y8, hj3, nty, csy, ntz, csz, g1, gc1, lM, e7, e21, e22, e23, gc3, g3, hle, hi1', q_x, g_x, l_x, r_x, z_x, nt4, cs4, qc, ggc, lc, zcc, g5, gc5, lu1, nt5, cs5, e9, e10, e11, hkl, hkn, hkl2, hz3]
        obtain ⟨u7, h7, hc7, ha7, hu7⟩ := waMove_ok h5 (.agg #[a, b]) z L A S[j].b i (hv0.keep A5.1) (y10.ints.keep A5.1) hsb hoB.small hiB
        refine callG_c (by simp) (by simp) ?ha (hc7) ?_
        (case ha => simp (disch := first | omega | (simp; done) | fail) [wrap64c, if_pos, if_neg, g_h0, lS, e2, e5, e12, e13, e14, gc, lu, hlt, y3q, y1', y4, y5, y6, y7, y8, hj3, nty, csy, ntz, csz, g1, gc1, lM, e7, e21, e22, e23, gc3, g3, hle, hi1', q_x, g_x, l_x, r_x, z_x, nt4, cs4, qc, ggc, lc, zcc, g5, gc5, lu1, nt5, cs5, e9, e10, e11, hkl, hkn, hkl2, hz3])
        have n7 := ha7.1.1
        have A7 := A5.trans ha7
        have nt7 := hu7.nt
        have cs7 := hu7.cs
        have ntu1 := hg5.nt
        rw [← hB1] at hu7
        obtain ⟨u6, h6, hap, hg6, A6, n6, hs6, ho6'⟩ := appSt (c := hi.next) (y := u4) (z := u7) (x := X1) (b := B1) (hg5.keep stR_steady ha7.1) ((hwr.read.keep ha7.1).sub fun o ho => ho.1) (hu7.read.sub fun o ho => by have := ho.1; omega) ⟨by have := ha3.1.1; omega, fun o ho => (hg3.obj ho).2⟩ 0 (by omega) A7 (by omega) (by omega)
        have hz0 : ((capN 0 : Nat) : Int) = 0 := rfl
        rw [hz0, qc] at hap
        try simp (disch := first | omega | (simp; done) | fail) [wrap64c, if_pos, if_neg, g_h0, lS, e2, e5, e12, e13, e14, gc, lu, hlt, y3q, y1', y4, y5, y6, y7, y8, hj3, nty, csy, ntz, csz, g1, gc1, lM, e7, e21, e22, e23, gc3, g3, hle, hi1', q_x, g_x, l_x, r_x, z_x, nt4, cs4, qc, ggc, lc, zcc, g5, gc5, lu1, nt5, cs5, e9, e10, e11, hkl, hkn, hkl2, hz3, nt7, cs7, ntu1, hap]
        obtain ⟨P6, hP6⟩ : ∃ P, P = putS P1 X1 B1 := ⟨_, rfl⟩
        have hPP : P6 = P1 ++ [⟨X1, B1, 0⟩] := by rw [hP6]; unfold putS; rw [if_pos (by omega)]
        rw [← hPP] at hg6
        have hPl6 : P6.length ≤ 844596302 := by rw [hPP]; simp; omega
        have hno : ∀ o, hq.next ≤ o → o < h2.next → h6.get o = h5.get o := fun o h1 h3 => by
          rw [hs6 o (by omega) (fun q => by have := ho3 o q; omega), ha7.1.2 o (by omega)]
        have g6 : h6.get hq.next = .cells [y, z, .int .i64 (w2 : Int)] true true 1 := by rw [hno _ (Nat.le_refl _) (by omega)]; exact g5
        have gc6 : h6.get h.next = .cells [a, b] true true 1 := by
          rw [hs6 _ (by omega) (fun q => by have := hg5.obj q; omega), ha7.1.2 _ (by omega)]; exact gc5
        have hm6 : Same (fun o => hq.next ≤ o ∧ o < h2.next) h2 h6 := hm5.trans ⟨by omega, fun o ho _ => hno o ho.1 ho.2⟩
        have ho6 : ∀ o, ObjIn u6 o → o < hq.next ∨ h2.next ≤ o := fun o ho => by
          rcases ho6' o ho with q | q
          · exact ho3 o q
          · right; omega
        have hlt6 : kk < P6.length := by rw [hP6, ← hix]; exact putS_len _ _ _
        obtain ⟨oo6, ds6, exo6, p6, r6, z1, z2, z3, z4, z5, ⟨z6, z7, z8⟩, z9, z10⟩ := stG_at hg6 hlt6
        have z1' := z1
        have hk3 : kk * 3 + 3 ≤ P6.length * 3 := by omega
        have hk5 : kk * 3 + 2 < ds6.length := by omega
        have w8 : ∀ h2 : kk * 3 + 2 < ds6.length, ds6[kk * 3 + 2] = .int .i64 ((capN P6[kk].w : Nat) : Int) := fun h2 => (List.getElem?_eq_some_iff.1 z8).2
        have hpc : ∀ x, putCells ds6 (kk * 3 + 2) [x] = ds6.set (kk * 3 + 2) x := fun x => by rw [List.set_eq_take_append_cons_drop, if_pos hk5]; simp [putCells]
        have hobj : ObjIn u6 oo6 := by rw [z1]; rfl
        have hoo := ho6 oo6 hobj
        have hadd := stG_add (w := S[j].w) hg6 hlt6 z1 z3
        have hcap : capN (P6[kk].w + S[j].w) = capN (capN P6[kk].w + w2) := by rw [hw2, capN_add]
        have hw1l := capN_le P6[kk].w
        rw [hcap] at hadd
        obtain ⟨w1, hw1⟩ : ∃ w, w = capN P6[kk].w := ⟨_, rfl⟩
        have hw1' := hw1.symm
        rw [← hw1] at hadd hw1l
        have hif : (if (w1 : Int) + (w2 : Int) < 1000000001 then (w1 : Int) + (w2 : Int) else 1000000001) = ((capN (w1 + w2) : Nat) : Int) := by unfold capN; split <;> omega
        have hlc := l1LeastD_ok h6 ((w1 : Int) + (w2 : Int)) 1000000001
        rw [hif] at hlc
        try simp (disch := first | omega | (simp; done) | fail) [wrap64c, if_pos, if_neg, g_h0, lS, e2, e5, e12, e13, e14, gc, lu, hlt, y3q, y1', y4, y5, y6, y7, y8, hj3, nty, csy, ntz, csz, g1, gc1, lM, e7, e21, e22, e23, gc3, g3, hle, hi1', q_x, g_x, l_x, r_x, z_x, nt4, cs4, qc, ggc, lc, zcc, g5, gc5, lu1, nt5, cs5, e9, e10, e11, hkl, hkn, hkl2, hz3, nt7, cs7, ntu1, g6, z1', z3, z4, z5, z6, z7, z8, hk3, hk5, w8, hpc, hw1']
        refine WD_drawC 11 rfl (by kernel_rfl) ?_
        try simp (disch := first | omega | (simp; done) | fail) [wrap64c, if_pos, if_neg, g_h0, lS, e2, e5, e12, e13, e14, gc, lu, hlt, y3q, y1', y4, y5, y6, y7, y8, hj3, nty, csy, ntz, csz, g1, gc1, lM, e7, e21, e22, e23, gc3, g3, hle, hi1', q_x, g_x, l_x, r_x, z_x, nt4, cs4, qc, ggc, lc, zcc, g5, gc5, lu1, nt5, cs5, e9, e10, e11, hkl, hkn, hkl2, hz3, nt7, cs7, ntu1, g6, z1', z3, z4, z5, z6, z7, z8, hk3, hk5, w8, hpc, hw1']
        refine callP_c (by simp) (by simp) ?ha (hlc) ?hadd ?_
        (case ha => simp (disch := first | omega | (simp; done) | fail) [wrap64c, if_pos, if_neg, g_h0, lS, e2, e5, e12, e13, e14, gc, lu, hlt, y3q, y1', y4, y5, y6, y7, y8, hj3, nty, csy, ntz, csz, g1, gc1, lM, e7, e21, e22, e23, gc3, g3, hle, hi1', q_x, g_x, l_x, r_x, z_x, nt4, cs4, qc, ggc, lc, zcc, g5, gc5, lu1, nt5, cs5, e9, e10, e11, hkl, hkn, hkl2, hz3, nt7, cs7, ntu1, g6, z1', z3, z4, z5, z6, z7, z8, hk3, hk5, w8, hpc, hw1'])
        (case hadd => first | assumption | exact adds_self _ | (simp; done))
        try simp (disch := first | omega | (simp; done) | fail) [wrap64c, if_pos, if_neg, g_h0, lS, e2, e5, e12, e13, e14, gc, lu, hlt, y3q, y1', y4, y5, y6, y7, y8, hj3, nty, csy, ntz, csz, g1, gc1, lM, e7, e21, e22, e23, gc3, g3, hle, hi1', q_x, g_x, l_x, r_x, z_x, nt4, cs4, qc, ggc, lc, zcc, g5, gc5, lu1, nt5, cs5, e9, e10, e11, hkl, hkn, hkl2, hz3, nt7, cs7, ntu1, g6, z1', z3, z4, z5, z6, z7, z8, hk3, hk5, w8, hpc, hw1']
        refine loopK_next _ ?hm ?hf ⟨e + 1, u6, rfl, (by simp (disch := first | omega | (simp; done) | fail) [wrap64c, if_pos, if_neg, g_h0, lS, e2, e5, e12, e13, e14, gc, lu, hlt, y3q, y1', y4, y5, y6, y7, y8, hj3, nty, csy, ntz, csz, g1, gc1, lM, e7, e21, e22, e23, gc3, g3, hle, hi1', q_x, g_x, l_x, r_x, z_x, nt4, cs4, qc, ggc, lc, zcc, g5, gc5, lu1, nt5, cs5, e9, e10, e11, hkl, hkn, hkl2, hz3, nt7, cs7, ntu1, g6, z1', z3, z4, z5, z6, z7, z8, hk3, hk5, w8, hpc, hw1'] <;> omega), (by simp (disch := first | omega | (simp; done) | fail) [wrap64c, if_pos, if_neg, g_h0, lS, e2, e5, e12, e13, e14, gc, lu, hlt, y3q, y1', y4, y5, y6, y7, y8, hj3, nty, csy, ntz, csz, g1, gc1, lM, e7, e21, e22, e23, gc3, g3, hle, hi1', q_x, g_x, l_x, r_x, z_x, nt4, cs4, qc, ggc, lc, zcc, g5, gc5, lu1, nt5, cs5, e9, e10, e11, hkl, hkn, hkl2, hz3, nt7, cs7, ntu1, g6, z1', z3, z4, z5, z6, z7, z8, hk3, hk5, w8, hpc, hw1'] <;> omega), (by first | omega | assumption | (simp (disch := first | omega | (simp; done) | fail) [wrap64c, if_pos, if_neg, g_h0, lS, e2, e5, e12, e13, e14, gc, lu, hlt, y3q, y1', y4, y5, y6, y7, y8, hj3, nty, csy, ntz, csz, g1, gc1, lM, e7, e21, e22, e23, gc3, g3, hle, hi1', q_x, g_x, l_x, r_x, z_x, nt4, cs4, qc, ggc, lc, zcc, g5, gc5, lu1, nt5, cs5, e9, e10, e11, hkl, hkn, hkl2, hz3, nt7, cs7, ntu1, g6, z1', z3, z4, z5, z6, z7, z8, hk3, hk5, w8, hpc, hw1'] <;> omega)), (by have := A6; have := z2.1; exact (by first | exact aK | exact kK)), (hm6.put (fun q => by rcases hoo with hoo | hoo <;> omega) _), (by simp [show h.next ≠ oo6 by have := z2.1; omega]; exact gc6), ?c_hg3, ho6⟩
        (case hm => first | omega | (simp; omega))
        (case hf => simp [FrameL, g_h0, lS, e2, e5, e12, e13, e14, gc, lu, hlt, y3q, y1', y4, y5, y6, y7, y8, hj3, nty, csy, ntz, csz, g1, gc1, lM, e7, e21, e22, e23, gc3, g3, hle, hi1', q_x, g_x, l_x, r_x, z_x, nt4, cs4, qc, ggc, lc, zcc, g5, gc5, lu1, nt5, cs5, e9, e10, e11, hkl, hkn, hkl2, hz3, nt7, cs7, ntu1, g6, z1', z3, z4, z5, z6, z7, z8, hk3, hk5, w8, hpc, hw1', f2_1, f7_1, f12_1, f13_1, f14_1, f21_1, f22_1])
        case c_hg3 =>
          exact (by
            rw [hsn]
            have e1 : insS P1 X1 B1 S[j].w = addS P6 kk S[j].w := by unfold insS; rw [hix, hP6]
            rw [e1]
            exact hadd)
    · try simp (disch := first | omega | (simp; done) | fail) [wrap64c, if_pos, if_neg, g_h0, lS, e2, e5, e12, e13, e14, gc, lu, hlt, y3q, y1', y4, y5, y6, y7, y8, hj3, nty, csy, ntz, csz, g1, gc1, lM, e7, e21, e22, e23, gc3, g3, hle]
      have hee : e = M.length := by omega
      rw [hee, List.take_length, hM] at hg3
      refine loopK_next _ ?hm ?hf ⟨j + 1, u1, rfl, (by simp (disch := first | omega | (simp; done) | fail) [wrap64c, if_pos, if_neg, g_h0, lS, e2, e5, e12, e13, e14, gc, lu, hlt, y3q, y1', y4, y5, y6, y7, y8, hj3, nty, csy, ntz, csz, g1, gc1, lM, e7, e21, e22, e23, gc3, g3, hle] <;> omega), (by simp (disch := first | omega | (simp; done) | fail) [wrap64c, if_pos, if_neg, g_h0, lS, e2, e5, e12, e13, e14, gc, lu, hlt, y3q, y1', y4, y5, y6, y7, y8, hj3, nty, csy, ntz, csz, g1, gc1, lM, e7, e21, e22, e23, gc3, g3, hle] <;> omega), (by first | omega | assumption | (simp (disch := first | omega | (simp; done) | fail) [wrap64c, if_pos, if_neg, g_h0, lS, e2, e5, e12, e13, e14, gc, lu, hlt, y3q, y1', y4, y5, y6, y7, y8, hj3, nty, csy, ntz, csz, g1, gc1, lM, e7, e21, e22, e23, gc3, g3, hle] <;> omega)), ha3, (by first | omega | assumption | (simp (disch := first | omega | (simp; done) | fail) [wrap64c, if_pos, if_neg, g_h0, lS, e2, e5, e12, e13, e14, gc, lu, hlt, y3q, y1', y4, y5, y6, y7, y8, hj3, nty, csy, ntz, csz, g1, gc1, lM, e7, e21, e22, e23, gc3, g3, hle] <;> omega)), (by first | omega | assumption | (simp (disch := first | omega | (simp; done) | fail) [wrap64c, if_pos, if_neg, g_h0, lS, e2, e5, e12, e13, e14, gc, lu, hlt, y3q, y1', y4, y5, y6, y7, y8, hj3, nty, csy, ntz, csz, g1, gc1, lM, e7, e21, e22, e23, gc3, g3, hle] <;> omega)), (by rw [List.take_succ_eq_append_getElem hlt, List.foldl_append, ← hP0]; exact hg3)⟩
      (case hm => first | omega | (simp; omega))
      (case hf => simp [FrameL, g_h0, lS, e2, e5, e12, e13, e14, gc, lu, hlt, y3q, y1', y4, y5, y6, y7, y8, hj3, nty, csy, ntz, csz, g1, gc1, lM, e7, e21, e22, e23, gc3, g3, hle, f2_0, f12_0, f13_0])
  · try simp (disch := first | omega | (simp; done) | fail) [wrap64c, if_pos, if_neg, g_h0, lS, e2, e5, e12, e13, e14, gc, lu, hlt]
    have hje : j = S.length := by omega
    rw [hje, List.take_length] at hg
    exact done_ret rfl ⟨ha, GL.weak stR_steady hg (by omega)⟩
end Go.Proofs.Ytnjabaeajjhliaa
