/- The space of an order, by the program. -/
import Derived.Test.YtnjabaeajjhliaaT28
import Derived.Test.YtnjabaeajjhliaaS8
namespace Go.Proofs.Ytnjabaeajjhliaa
set_option linter.unusedSimpArgs false
set_option linter.unusedVariables false
set_option maxHeartbeats 4000000
open Go Go.Eng
attribute [local irreducible] WD RunD PreD Runs CallOK

def keepsB (L : List (List Int)) (a : Nat) : Bool := !L.any (breaks a)
theorem pairsB_all {N : Int} {L : List (List Int)} (h : pairsB N L = true) : L.length ≤ 40 ∧ ∀ x ∈ L, pairB N x = true := by
  unfold pairsB at h
  simp only [Bool.and_eq_true, decide_eq_true_eq, Bool.not_eq_true', List.any_eq_false, Bool.not_eq_true, Bool.not_eq_false'] at h
  refine ⟨h.1, fun x hx => ?_⟩
  simpa using h.2 x hx

theorem ordSet_ok (h : Hp) (o a n : Nat) (v : Value) (L : List (List Int)) (hn : n ≤ 7) (ha : a < 128) (hp : ∀ x ∈ L, pairB n x = true) (hg : h.get o = .cells [v] true true 1) (ho : o < h.next) (hv : IRows h v L) :
    CallOK Try.prog 150 #[.int .i64 (a : Int), .pointer (some ⟨o, 0, none⟩)] h (.bool (keepsB L a)) h := by
  refine callY_P 8 _ [.tmp 3] Try.func150 rfl rfl rfl (by first | rfl | simp) ?_
  have hg1 := hg
  have hnt := hv.nt
  have hcs := hv.cs
  try simp (disch := first | omega | (simp; done) | fail) [wrap64c, if_pos, if_neg, opAnd, opOr, opXor, opDiff, opShr, opBit, hg1, hnt, hcs]
  first | refine WY_heap fun h0 q_h0 => ?_ | refine callG_heap fun h0 q_h0 => ?_ | refine callP_heap fun h0 q_h0 => ?_ | refine RY_heap fun h0 q_h0 => ?_ | refine PY_heap fun h0 q_h0 => ?_ | refine doneY_heap fun h0 q_h0 => ?_ | refine loopK_heap fun h0 q_h0 => ?_ | refine thenY_heap fun h0 q_h0 => ?_ | refine thenM_heap fun h0 q_h0 => ?_
  have k0 : Adds h h0 := by rw [q_h0]; exact (by first | exact aK | exact kK)
  have g0 : h0.get h.next = .cells [.int .i64 (a : Int)] true true 1 := by simp [q_h0]
  refine callG_c (by simp) (by simp) ?ha (containsRows_ok h0 v L (hv.keep k0.1) 151 #[.pointer (some ⟨h.next, 0, none⟩)] (breaks a) (by simp) (fun u x hu hx => ordClo_ok h0 h.next a u x n hn ha (hp x hx) g0 hu)) ?_
  (case ha => simp (disch := first | omega | (simp; done) | fail) [wrap64c, if_pos, if_neg, opAnd, opOr, opXor, opDiff, opShr, opBit, hg1, hnt, hcs])
  try simp (disch := first | omega | (simp; done) | fail) [wrap64c, if_pos, if_neg, opAnd, opOr, opXor, opDiff, opShr, opBit, hg1, hnt, hcs]
  exact done_ret rfl (by simp [keepsB, k0.1])

def ordL (n : Nat) (L : List (List Int)) : List Nat := famK (keepsB L) (bit n)
noncomputable def ordOK (N : Int) (L : List (List Int)) : Bool := sizeB N && pairsB N L && spB N (toN (ordL N.toNat L))
noncomputable def ordN (N : Int) (L : List (List Int)) : Int := if ordOK N L = true then N else 0
noncomputable def ordX (N : Int) (L : List (List Int)) : List Int := if ordOK N L = true then toN (ordL N.toNat L) else []
theorem ordL_len (n : Nat) (L : List (List Int)) : (ordL n L).length ≤ bit n := by
  unfold ordL famK
  have := List.length_filter_le (keepsB L) (List.range (bit n))
  simpa using this

theorem orderSpace_ok (h : Hp) (v : Value) (L : List (List Int)) (N : Int) (hv : IRows h v L) :
    ∃ v' h', CallOK Try.prog 99 #[.int .i64 N, v] h v' h' ∧ Adds h h' ∧ ∃ u, v' = .tuple #[u, .bool (ordOK N L)] ∧ SpaceO (Btw h.next h'.next) h' u (ordN N L) (ordX N L) := by
  have hnt := hv.nt
  have hcs := hv.cs
  cases c1 : sizeB N
  · have hk : ordOK N L = false := by simp [ordOK, c1]
    refine callY_L (args := [.int .i64 N, v]) 25 _ [.cell 4 32, .tmp 5] Try.func99 rfl rfl rfl ?_
    try simp (disch := first | omega | (simp; done) | fail) [wrap64c, if_pos, if_neg, opAnd, opOr, opXor, opDiff, opShr, opBit, hnt, hcs, c1, hk]
    refine callG_c (by simp) (by simp) ?ha (isSize_ok _ N) ?_
    (case ha => simp (disch := first | omega | (simp; done) | fail) [wrap64c, if_pos, if_neg, opAnd, opOr, opXor, opDiff, opShr, opBit, hnt, hcs, c1, hk])
    try simp (disch := first | omega | (simp; done) | fail) [wrap64c, if_pos, if_neg, opAnd, opOr, opXor, opDiff, opShr, opBit, hnt, hcs, c1, hk, putCells]
    refine done_ret (by simp [putCells]; rfl) ⟨(by first | exact aK | exact kK), .agg #[.int .i64 0, .slice none 0 0], by simp [hk], ?_⟩
    simp only [ordN, ordX, hk]
    exact ⟨_, rfl, .nil _ _⟩
  · obtain ⟨n, rfl, n1, n7⟩ := sizeB_true c1
    cases c2 : pairsB n L
    · have hk : ordOK n L = false := by simp [ordOK, c1, c2]
      refine callY_L (args := [.int .i64 (n : Int), v]) 25 _ [.cell 4 32, .tmp 5] Try.func99 rfl rfl rfl ?_
      try simp (disch := first | omega | (simp; done) | fail) [wrap64c, if_pos, if_neg, opAnd, opOr, opXor, opDiff, opShr, opBit, hnt, hcs, c1, c2, hk]
      refine callG_c (by simp) (by simp) ?ha (isSize_ok _ n) ?_
      (case ha => simp (disch := first | omega | (simp; done) | fail) [wrap64c, if_pos, if_neg, opAnd, opOr, opXor, opDiff, opShr, opBit, hnt, hcs, c1, c2, hk])
      try simp (disch := first | omega | (simp; done) | fail) [wrap64c, if_pos, if_neg, opAnd, opOr, opXor, opDiff, opShr, opBit, hnt, hcs, c1, c2, hk]
      first | refine WY_heap fun h0 q_h0 => ?_ | refine callG_heap fun h0 q_h0 => ?_ | refine callP_heap fun h0 q_h0 => ?_ | refine RY_heap fun h0 q_h0 => ?_ | refine PY_heap fun h0 q_h0 => ?_ | refine doneY_heap fun h0 q_h0 => ?_ | refine loopK_heap fun h0 q_h0 => ?_ | refine thenY_heap fun h0 q_h0 => ?_ | refine thenM_heap fun h0 q_h0 => ?_
      have k0 : Adds h h0 := by rw [q_h0]; exact (by first | exact aK | exact kK)
      refine callG_c (by simp) (by simp) ?ha (arePairs_ok h0 v L n (by omega) (hv.keep k0.1)) ?_
      (case ha => simp (disch := first | omega | (simp; done) | fail) [wrap64c, if_pos, if_neg, opAnd, opOr, opXor, opDiff, opShr, opBit, hnt, hcs, c1, c2, hk])
      have g1 : h0.get (h.next + 1) = .cells [.int .i64 0, .slice none 0 0] true true 1 := by simp [q_h0]
      have n0 : h0.next = h.next + 2 := by simp [q_h0]
      try simp (disch := first | omega | (simp; done) | fail) [wrap64c, if_pos, if_neg, opAnd, opOr, opXor, opDiff, opShr, opBit, hnt, hcs, c1, c2, hk, g1, putCells]
      refine done_ret (by simp [putCells]; rfl) ⟨(by first | exact aK | exact kK), .agg #[.int .i64 0, .slice none 0 0], by simp [hk], ?_⟩
      simp only [ordN, ordX, hk]
      exact ⟨_, rfl, .nil _ _⟩
    · obtain ⟨hl40, hall⟩ := pairsB_all c2
      refine callY_L (args := [.int .i64 (n : Int), v]) 25 _ [.cell 4 32, .tmp 5] Try.func99 rfl rfl rfl ?_
      try simp (disch := first | omega | (simp; done) | fail) [wrap64c, if_pos, if_neg, opAnd, opOr, opXor, opDiff, opShr, opBit, hnt, hcs, c1, c2]
      refine callG_c (by simp) (by simp) ?ha (isSize_ok _ n) ?_
      (case ha => simp (disch := first | omega | (simp; done) | fail) [wrap64c, if_pos, if_neg, opAnd, opOr, opXor, opDiff, opShr, opBit, hnt, hcs, c1, c2])
      try simp (disch := first | omega | (simp; done) | fail) [wrap64c, if_pos, if_neg, opAnd, opOr, opXor, opDiff, opShr, opBit, hnt, hcs, c1, c2]
      first | refine WY_heap fun h0 q_h0 => ?_ | refine callG_heap fun h0 q_h0 => ?_ | refine callP_heap fun h0 q_h0 => ?_ | refine RY_heap fun h0 q_h0 => ?_ | refine PY_heap fun h0 q_h0 => ?_ | refine doneY_heap fun h0 q_h0 => ?_ | refine loopK_heap fun h0 q_h0 => ?_ | refine thenY_heap fun h0 q_h0 => ?_ | refine thenM_heap fun h0 q_h0 => ?_
      have k0 : Adds h h0 := by rw [q_h0]; exact (by first | exact aK | exact kK)
      have hv0 := hv.keep k0.1
      have hb7 := bit7 n7
      have hol := ordL_len n L
      refine callG_c (by simp) (by simp) ?ha (arePairs_ok h0 v L n (by omega) hv0) ?_
      (case ha => simp (disch := first | omega | (simp; done) | fail) [wrap64c, if_pos, if_neg, opAnd, opOr, opXor, opDiff, opShr, opBit, hnt, hcs, c1, c2])
      have g0 : h0.get h.next = .cells [v] true true 1 := by simp [q_h0, hcs]
      have g1 : h0.get (h.next + 1) = .cells [.int .i64 0, .slice none 0 0] true true 1 := by simp [q_h0]
      have n0 : h0.next = h.next + 2 := by simp [q_h0]
      obtain ⟨_, h2, hc2, ha2, b, rfl, hb⟩ := those_ok 150 #[.pointer (some ⟨h.next, 0, none⟩)] (keepsB L) n n7 (fun h' => Keeps h0 h') h0.next (fun h1 h2 k hb hn hs => ⟨by omega, fun o ho => by rw [hs o ho]; exact k.2 o ho⟩)
        (fun h1 a k hb ha => ordSet_ok h1 h.next a n v L n7 (by omega) hall (by rw [k.2 _ (by omega)]; exact g0) (by omega) (hv0.keep k)) (by simp) h0 ⟨Nat.le_refl _, fun o _ => rfl⟩ (Nat.le_refl _)
      have nt := hb.nt
      have cs := hb.cs
      have g2 : h2.get (h.next + 1) = .cells [.int .i64 0, .slice none 0 0] true true 1 := by rw [ha2.1.2 _ (by omega)]; exact g1
      have m2 := ha2.1.1
      try simp (disch := first | omega | (simp; done) | fail) [wrap64c, if_pos, if_neg, opAnd, opOr, opXor, opDiff, opShr, opBit, hnt, hcs, c1, c2, g0, g1, nt, cs, g2]
      refine callG_c (by simp) (by simp) ?ha (hc2) ?_
      (case ha => simp (disch := first | omega | (simp; done) | fail) [wrap64c, if_pos, if_neg, opAnd, opOr, opXor, opDiff, opShr, opBit, hnt, hcs, c1, c2, g0, g1, nt, cs, g2])
      try simp (disch := first | omega | (simp; done) | fail) [wrap64c, if_pos, if_neg, opAnd, opOr, opXor, opDiff, opShr, opBit, hnt, hcs, c1, c2, g0, g1, nt, cs, g2, putCells]
      first | refine WY_heap fun h3 q_h3 => ?_ | refine callG_heap fun h3 q_h3 => ?_ | refine callP_heap fun h3 q_h3 => ?_ | refine RY_heap fun h3 q_h3 => ?_ | refine PY_heap fun h3 q_h3 => ?_ | refine doneY_heap fun h3 q_h3 => ?_ | refine loopK_heap fun h3 q_h3 => ?_ | refine thenY_heap fun h3 q_h3 => ?_ | refine thenM_heap fun h3 q_h3 => ?_
      have k3 : Adds h2 h3 := by rw [q_h3]; exact (by first | exact aK | exact kK)
      have n3 : h3.next = h2.next + 1 := by simp [q_h3]
      have g3 : h3.get (h.next + 1) = .cells [.int .i64 0, .slice none 0 0] true true 1 := by rw [k3.1.2 _ (by omega)]; exact g2
      have g4 : h3.get h2.next = .cells [.int .i64 n, b] true true 1 := by simp [q_h3]
      have hb3 := hb.keep k3.1
      try simp (disch := first | omega | (simp; done) | fail) [wrap64c, if_pos, if_neg, opAnd, opOr, opXor, opDiff, opShr, opBit, hnt, hcs, c1, c2, g0, g1, nt, cs, g2, g3, g4]
      refine callG_c (by simp) (by simp) ?ha (isSpace_ok h3 (.agg #[.int .i64 n, b]) n (toN (ordL n L)) (.mk hb3.ints) (by simp; omega)) ?_
      (case ha => simp (disch := first | omega | (simp; done) | fail) [wrap64c, if_pos, if_neg, opAnd, opOr, opXor, opDiff, opShr, opBit, hnt, hcs, c1, c2, g0, g1, nt, cs, g2, g3, g4])
      have A := (k0.trans ha2).trans k3
      cases c3 : spB n (toN (ordL n L))
      · have hk : ordOK n L = false := by simp [ordOK, c1, c2, c3]
        try simp (disch := first | omega | (simp; done) | fail) [wrap64c, if_pos, if_neg, opAnd, opOr, opXor, opDiff, opShr, opBit, hnt, hcs, c1, c2, g0, g1, nt, cs, g2, g3, g4, c3, hk, putCells]
        refine done_ret (by simp [putCells]; rfl) ⟨(by first | exact aK | exact kK), .agg #[.int .i64 0, .slice none 0 0], by simp [hk], ?_⟩
        simp only [ordN, ordX, hk]
        exact ⟨_, rfl, .nil _ _⟩
      · have hk : ordOK n L = true := by simp [ordOK, c1, c2, c3]
        try simp (disch := first | omega | (simp; done) | fail) [wrap64c, if_pos, if_neg, opAnd, opOr, opXor, opDiff, opShr, opBit, hnt, hcs, c1, c2, g0, g1, nt, cs, g2, g3, g4, c3, hk, putCells]
        refine done_ret (by simp [putCells]; rfl) ⟨(by first | exact aK | exact kK), .agg #[.int .i64 n, b], by simp [hk], ?_⟩
        simp only [ordN, ordX, hk, if_true]
        exact ⟨b, rfl, (hb3.same (Same.put (Same.refl _ _) (by unfold Btw; omega) _)).sub fun o ho => ⟨by have := ho.1; omega, by have := ho.2; simp; omega⟩⟩
end Go.Proofs.Ytnjabaeajjhliaa
