/- Pairs of items; rows in which something holds. -/
import Derived.Test.YtnjabaeajjhliaaT8
namespace Go.Proofs.Ytnjabaeajjhliaa
set_option linter.unusedSimpArgs false
set_option linter.unusedVariables false
set_option maxHeartbeats 4000000
open Go Go.Eng
attribute [local irreducible] WD RunD PreD Runs CallOK

/-- The first row in which something holds, or -1. -/
def idxF (q : List Int → Bool) (L : List (List Int)) : Int := if L.any q = true then (L.findIdx q : Int) else -1
theorem idxF_pos (q : List Int → Bool) (L : List (List Int)) : decide (0 ≤ idxF q L) = L.any q := by
  unfold idxF
  cases h : L.any q
  · simp
  · simp

theorem indexRows_ok (h : Hp) (v : Value) (L : List (List Int)) (hv : IRows h v L) (f : Nat) (cap : Array Value) (q : List Int → Bool) (hfn : fnOK Try.prog f = true)
    (hf : ∀ u x, Ints h u x → x ∈ L → CallOK Try.prog f (#[u] ++ cap) h (.bool (q x)) h) :
    CallOK Try.prog 169 #[v, .func (.func f) #[] cap] h (.int .i64 (idxF q L)) h := by
  have hfn1 := hfn
  refine callY_P 19 _ [.tmp 4] Try.func169 rfl rfl rfl (by first | rfl | simp) ?_
  have hs := hv.len
  have hL := hv.lenD
  try simp (disch := first | omega | (simp; done) | fail) [wrap64c, if_pos, if_neg, opAnd, opOr, opXor, opDiff, opShr, opBit, hfn1, hL]
  refine WD_loopC [0, 1, 7] (fun m tm h' => ∃ j, m = L.length - j ∧ h = h' ∧ tm 8 = .int .i64 (j : Int) ∧ (j ≤ L.length) ∧ (∀ i (hi : i < L.length), i < j → q L[i] = false)) _ ⟨0, rfl, rfl, (by simp (disch := first | omega | (simp; done) | fail) [wrap64c, if_pos, if_neg, opAnd, opOr, opXor, opDiff, opShr, opBit, hfn1, hL]), (by first | omega | assumption | (simp (disch := first | omega | (simp; done) | fail) [wrap64c, if_pos, if_neg, opAnd, opOr, opXor, opDiff, opShr, opBit, hfn1, hL] <;> omega)), (fun i hi h0 => by omega)⟩ ?_
  rintro m tm h' hFr ⟨j, rfl, rfl, e8, hj, hx⟩
  simp only [FrameL] at hFr
  obtain ⟨f0_0, f1_0, f7_0, -⟩ := hFr
  try simp (disch := first | omega | (simp; done) | fail) [wrap64c, if_pos, if_neg, opAnd, opOr, opXor, opDiff, opShr, opBit, hfn1, hL] at f0_0 f1_0 f7_0
  have e0 := f0_0
  have e1 := f1_0
  have e7 := f7_0
  by_cases hlt : j < L.length
  · obtain ⟨o_x, i_x, c_x, cs_x, own_x, ex_x, es_x, us_x, q_x, b_x, g_x, l_x, r_x, R_x⟩ := hv.open ((by omega))
    have z_x : ∀ h2 : i_x < cs_x.length, cs_x[i_x] = _ := fun h2 => r_x 0 ((by omega)) h2
    try simp (disch := first | omega | (simp; done) | fail) [wrap64c, if_pos, if_neg, opAnd, opOr, opXor, opDiff, opShr, opBit, hfn1, hL, e0, e1, e7, e8, hlt, q_x, g_x, l_x, r_x, z_x]
    refine callG_f (fst := #[]) (cap := cap) (by simp) (by simp) ?hf ?hk ?ha (hf (us_x j) L[j] (R_x j hlt) (List.getElem_mem hlt)) ?_
    (case hf => simp (disch := first | omega | (simp; done) | fail) [wrap64c, if_pos, if_neg, opAnd, opOr, opXor, opDiff, opShr, opBit, hfn1, hL, e0, e1, e7, e8, hlt, q_x, g_x, l_x, r_x, z_x]; try rfl)
    (case hk => simp (disch := first | omega | (simp; done) | fail) [wrap64c, if_pos, if_neg, opAnd, opOr, opXor, opDiff, opShr, opBit, hfn1, hL, e0, e1, e7, e8, hlt, q_x, g_x, l_x, r_x, z_x])
    (case ha => simp (disch := first | omega | (simp; done) | fail) [wrap64c, if_pos, if_neg, opAnd, opOr, opXor, opDiff, opShr, opBit, hfn1, hL, e0, e1, e7, e8, hlt, q_x, g_x, l_x, r_x, z_x])
    cases hq : q L[j]
    · try simp (disch := first | omega | (simp; done) | fail) [wrap64c, if_pos, if_neg, opAnd, opOr, opXor, opDiff, opShr, opBit, hfn1, hL, e0, e1, e7, e8, hlt, q_x, g_x, l_x, r_x, z_x, hq]
      refine loopK_next _ ?hm ?hf ⟨j + 1, rfl, rfl, (by simp (disch := first | omega | (simp; done) | fail) [wrap64c, if_pos, if_neg, opAnd, opOr, opXor, opDiff, opShr, opBit, hfn1, hL, e0, e1, e7, e8, hlt, q_x, g_x, l_x, r_x, z_x, hq] <;> omega), (by first | omega | assumption | (simp (disch := first | omega | (simp; done) | fail) [wrap64c, if_pos, if_neg, opAnd, opOr, opXor, opDiff, opShr, opBit, hfn1, hL, e0, e1, e7, e8, hlt, q_x, g_x, l_x, r_x, z_x, hq] <;> omega)), ?c_hx⟩
      (case hm => first | omega | (simp; omega))
      (case hf => simp [FrameL, hfn1, hL, e0, e1, e7, e8, hlt, q_x, g_x, l_x, r_x, z_x, hq, f0_0, f1_0, f7_0])
      case c_hx =>
        exact (fun i hi h1 => by
          by_cases e : i = j
          · subst e; exact hq
          · exact hx i hi (by omega))
    · have hi : idxF q L = (j : Int) := by
        unfold idxF
        rw [if_pos (List.any_eq_true.2 ⟨_, List.getElem_mem hlt, hq⟩)]
        rw [(List.findIdx_eq hlt).2 ⟨hq, fun k hk => hx k (by omega) hk⟩]
      try simp (disch := first | omega | (simp; done) | fail) [wrap64c, if_pos, if_neg, opAnd, opOr, opXor, opDiff, opShr, opBit, hfn1, hL, e0, e1, e7, e8, hlt, q_x, g_x, l_x, r_x, z_x, hq]
      exact done_ret rfl (by simp [hi])
  · have hi : idxF q L = -1 := by
      unfold idxF
      rw [if_neg]
      intro h1
      obtain ⟨x, hx1, hx2⟩ := List.any_eq_true.1 h1
      obtain ⟨k, hk, rfl⟩ := List.getElem_of_mem hx1
      rw [hx k hk (by omega)] at hx2; cases hx2
    try simp (disch := first | omega | (simp; done) | fail) [wrap64c, if_pos, if_neg, opAnd, opOr, opXor, opDiff, opShr, opBit, hfn1, hL, e0, e1, e7, e8, hlt]
    exact done_ret rfl (by simp [hi])

theorem containsRows_ok (h : Hp) (v : Value) (L : List (List Int)) (hv : IRows h v L) (f : Nat) (cap : Array Value) (q : List Int → Bool) (hfn : fnOK Try.prog f = true)
    (hf : ∀ u x, Ints h u x → x ∈ L → CallOK Try.prog f (#[u] ++ cap) h (.bool (q x)) h) :
    CallOK Try.prog 147 #[v, .func (.func f) #[] cap] h (.bool (L.any q)) h := by
  refine callY_P 9 _ [.tmp 4] Try.func147 rfl rfl rfl (by first | rfl | simp) ?_
  try simp (disch := first | omega | (simp; done) | fail) [wrap64c, if_pos, if_neg, opAnd, opOr, opXor, opDiff, opShr, opBit]
  refine callG_c (by simp) (by simp) ?ha (indexRows_ok h v L hv f cap q hfn hf) ?_
  (case ha => simp (disch := first | omega | (simp; done) | fail) [wrap64c, if_pos, if_neg, opAnd, opOr, opXor, opDiff, opShr, opBit])
  have e := idxF_pos q L
  try simp (disch := first | omega | (simp; done) | fail) [wrap64c, if_pos, if_neg, opAnd, opOr, opXor, opDiff, opShr, opBit, e]
  exact done_ret rfl (by simp)

/-- What is asked of a pair. -/
def pairB (N : Int) (x : List Int) : Bool := decide (x.length = 2) && (decide (0 ≤ x.getD 0 0 ∧ x.getD 0 0 ≤ N - 1) && (decide (0 ≤ x.getD 1 0 ∧ x.getD 1 0 ≤ N - 1) && !decide (x.getD 0 0 = x.getD 1 0)))
def pairsB (N : Int) (L : List (List Int)) : Bool := decide (L.length ≤ 40) && !L.any fun x => !pairB N x

theorem pairBad_ok (h : Hp) (o : Nat) (v : Value) (x : List Int) (N : Int) (hN : -1000 ≤ N ∧ N ≤ 1000) (hg : h.get o = .cells [.int .i64 N] true true 1) (hv : Ints h v x) :
    CallOK Try.prog 148 #[v, .pointer (some ⟨o, 0, none⟩)] h (.bool (!pairB N x)) h := by
  refine callY_P 34 _ [.tmp 3] Try.func148 rfl rfl rfl (by first | rfl | simp) ?_
  have hL := hv.lenD
  have hg1 := hg
  try simp (disch := first | omega | (simp; done) | fail) [wrap64c, if_pos, if_neg, opAnd, opOr, opXor, opDiff, opShr, opBit, hL, hg1]
  refine WD_drawC 30 rfl (by kernel_rfl) ?_
  by_cases h2 : x.length = 2
  · obtain ⟨a, b, rfl⟩ : ∃ a b, x = [a, b] := by
      match x, h2 with
      | [a, b], _ => exact ⟨a, b, rfl⟩
    obtain ⟨o_y, i_y, c_y, cs_y, own_y, ex_y, es_y, q_y, b_y, g_y, l_y, r_y⟩ := hv.open ((by simp))
    have z_y : ∀ h2 : i_y < cs_y.length, cs_y[i_y] = _ := fun h2 => r_y 0 ((by simp)) h2
    have z2_y := r_y 1 (by simp)
    try simp (disch := first | omega | (simp; done) | fail) [wrap64c, if_pos, if_neg, opAnd, opOr, opXor, opDiff, opShr, opBit, hL, hg1, q_y, g_y, l_y, r_y, z_y, z2_y]
    refine callP_c (by simp) (by simp) ?ha (within_ok h a 0 (N - 1)) ?hadd ?_
    (case ha => simp (disch := first | omega | (simp; done) | fail) [wrap64c, if_pos, if_neg, opAnd, opOr, opXor, opDiff, opShr, opBit, hL, hg1, q_y, g_y, l_y, r_y, z_y, z2_y])
    (case hadd => first | assumption | exact adds_self _ | (simp; done))
    cases c1 : decide (0 ≤ a ∧ a ≤ N - 1)
    · try simp (disch := first | omega | (simp; done) | fail) [wrap64c, if_pos, if_neg, opAnd, opOr, opXor, opDiff, opShr, opBit, hL, hg1, q_y, g_y, l_y, r_y, z_y, z2_y, c1]
      exact done_ret rfl (by simp [pairB, c1])
    · try simp (disch := first | omega | (simp; done) | fail) [wrap64c, if_pos, if_neg, opAnd, opOr, opXor, opDiff, opShr, opBit, hL, hg1, q_y, g_y, l_y, r_y, z_y, z2_y, c1]
      refine callP_c (by simp) (by simp) ?ha (within_ok h b 0 (N - 1)) ?hadd ?_
      (case ha => simp (disch := first | omega | (simp; done) | fail) [wrap64c, if_pos, if_neg, opAnd, opOr, opXor, opDiff, opShr, opBit, hL, hg1, q_y, g_y, l_y, r_y, z_y, z2_y, c1])
      (case hadd => first | assumption | exact adds_self _ | (simp; done))
      cases c2 : decide (0 ≤ b ∧ b ≤ N - 1)
      · try simp (disch := first | omega | (simp; done) | fail) [wrap64c, if_pos, if_neg, opAnd, opOr, opXor, opDiff, opShr, opBit, hL, hg1, q_y, g_y, l_y, r_y, z_y, z2_y, c1, c2]
        exact done_ret rfl (by simp [pairB, c1, c2])
      · try simp (disch := first | omega | (simp; done) | fail) [wrap64c, if_pos, if_neg, opAnd, opOr, opXor, opDiff, opShr, opBit, hL, hg1, q_y, g_y, l_y, r_y, z_y, z2_y, c1, c2]
        exact done_ret rfl (by simp [pairB, c1, c2]; rw [Bool.eq_iff_iff]; simp)
  · have h2' : ((x.length : Int) != 2) = true := by simp; omega
    try simp (disch := first | omega | (simp; done) | fail) [wrap64c, if_pos, if_neg, opAnd, opOr, opXor, opDiff, opShr, opBit, hL, hg1, h2']
    exact done_ret rfl (by simp [pairB, h2])

theorem arePairs_ok (h : Hp) (v : Value) (L : List (List Int)) (N : Int) (hN : -1000 ≤ N ∧ N ≤ 1000) (hv : IRows h v L) : CallOK Try.prog 98 #[.int .i64 N, v] h (.bool (pairsB N L)) h := by
  refine callY_P 14 _ [.tmp 4] Try.func98 rfl rfl rfl (by first | rfl | simp) ?_
  have hs := hv.len
  have hL := hv.lenD
  refine WD_first ?_
  try simp (disch := first | omega | (simp; done) | fail) [wrap64c, if_pos, if_neg, opAnd, opOr, opXor, opDiff, opShr, opBit, hL]
  refine stopK_heap fun h0 q_h0 => ?_
  refine stopK_go ?_
  have k0 : Adds h h0 := by rw [q_h0]; exact (by first | exact aK | exact kK)
  have g0 : h0.get h.next = .cells [.int .i64 N] true true 1 := by simp [q_h0]
  by_cases hl : L.length ≤ 40
  · have hl' : (L.length : Int) ≤ 40 := by omega
    try simp (disch := first | omega | (simp; done) | fail) [wrap64c, if_pos, if_neg, opAnd, opOr, opXor, opDiff, opShr, opBit, hL, hl']
    refine callG_c (by simp) (by simp) ?ha (containsRows_ok h0 v L (hv.keep k0.1) 148 #[.pointer (some ⟨h.next, 0, none⟩)] (fun x => !pairB N x) (by simp) (fun u x hu hx => pairBad_ok h0 h.next u x N hN g0 hu)) ?_
    (case ha => simp (disch := first | omega | (simp; done) | fail) [wrap64c, if_pos, if_neg, opAnd, opOr, opXor, opDiff, opShr, opBit, hL, hl'])
    try simp (disch := first | omega | (simp; done) | fail) [wrap64c, if_pos, if_neg, opAnd, opOr, opXor, opDiff, opShr, opBit, hL, hl']
    exact done_ret rfl (by simp [pairsB, hl, k0.1])
  · have hl' : ¬ (L.length : Int) ≤ 40 := by omega
    try simp (disch := first | omega | (simp; done) | fail) [wrap64c, if_pos, if_neg, opAnd, opOr, opXor, opDiff, opShr, opBit, hL, hl']
    exact done_ret rfl (by simp [pairsB, hl, k0.1])

/-- A set that has the second of a pair has the first. -/
def breaks (a : Nat) (x : List Int) : Bool := a.testBit (x.getD 1 0).toNat && !a.testBit (x.getD 0 0).toNat
theorem ordClo_ok (h : Hp) (o a : Nat) (v : Value) (x : List Int) (n : Nat) (hn : n ≤ 7) (ha : a < 128) (hp : pairB n x = true) (hg : h.get o = .cells [.int .i64 (a : Int)] true true 1) (hv : Ints h v x) :
    CallOK Try.prog 151 #[v, .pointer (some ⟨o, 0, none⟩)] h (.bool (breaks a x)) h := by
  unfold pairB at hp
  simp only [Bool.and_eq_true, decide_eq_true_eq] at hp
  obtain ⟨h2, ⟨p1, p2⟩, ⟨p3, p4⟩, _⟩ := hp
  obtain ⟨c, d, rfl⟩ : ∃ c d, x = [c, d] := by
    match x, h2 with
    | [c, d], _ => exact ⟨c, d, rfl⟩
  simp at p1 p2 p3 p4
  obtain ⟨i, rfl⟩ := Int.eq_ofNat_of_zero_le p1
  obtain ⟨j, rfl⟩ := Int.eq_ofNat_of_zero_le p3
  refine callY_P 20 _ [.tmp 3] Try.func151 rfl rfl rfl (by first | rfl | simp) ?_
  have hg1 := hg
  obtain ⟨o_y, i_y, c_y, cs_y, own_y, ex_y, es_y, q_y, b_y, g_y, l_y, r_y⟩ := hv.open ((by simp))
  have z_y : ∀ h2 : i_y < cs_y.length, cs_y[i_y] = _ := fun h2 => r_y 0 ((by simp)) h2
  have z2_y := r_y 1 (by simp)
  have h01 := nShr_and01 a i
  have h02 := nShr_and01 a j
  have hl1 := nShr_le a i
  have hl2 := nShr_le a j
  try simp (disch := first | omega | (simp; done) | fail) [wrap64c, if_pos, if_neg, opAnd, opOr, opXor, opDiff, opShr, opBit, hg1, q_y, g_y, l_y, r_y, z_y, z2_y]
  refine WD_drawC 16 rfl (by kernel_rfl) ?_
  cases c2 : a.testBit j
  · rw [c2] at h02
    have h02 := h02
    try simp (disch := first | omega | (simp; done) | fail) [wrap64c, if_pos, if_neg, opAnd, opOr, opXor, opDiff, opShr, opBit, hg1, q_y, g_y, l_y, r_y, z_y, z2_y, c2, h02]
    exact done_ret rfl (by simp [breaks, c2])
  · rw [c2] at h02
    have h02 := h02
    cases c1 : a.testBit i
    · rw [c1] at h01
      have h01 := h01
      try simp (disch := first | omega | (simp; done) | fail) [wrap64c, if_pos, if_neg, opAnd, opOr, opXor, opDiff, opShr, opBit, hg1, q_y, g_y, l_y, r_y, z_y, z2_y, c2, h02, c1, h01]
      exact done_ret rfl (by simp [breaks, c1, c2])
    · rw [c1] at h01
      have h01 := h01
      try simp (disch := first | omega | (simp; done) | fail) [wrap64c, if_pos, if_neg, opAnd, opOr, opXor, opDiff, opShr, opBit, hg1, q_y, g_y, l_y, r_y, z_y, z2_y, c2, h02, c1, h01]
      exact done_ret rfl (by simp [breaks, c1, c2])
end Go.Proofs.Ytnjabaeajjhliaa
