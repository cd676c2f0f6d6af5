/- IsRun and MoveChips: reference and program. -/
import Derived.Test.YtnnjehonbolliaaB2
namespace Go.Proofs.Ytnnjehonbolliaa
set_option linter.unusedSimpArgs false
set_option linter.unusedVariables false
set_option maxHeartbeats 4000000
open Go Go.Eng
attribute [local irreducible] WD RunD PreD Runs CallOK

/-- Whether a list is a run, and whether that can be told. -/
noncomputable def isR (L : List (List Int)) (A ms : List Int) : Bool := (runR L A ms).isSome
noncomputable def isG (L : List (List Int)) (A ms : List Int) : Bool := goodB L A && decide (ms.length ≤ 120)

theorem spIsRun_ok (h : Hp) (v w : Value) (L : List (List Int)) (A ms : List Int) (hv : Chips h v L A) (hw : Ints h w ms) : CallOK Try.prog 25 #[v, w] h (.tuple #[.bool (isR L A ms), .bool (isG L A ms)]) h := by
  refine callY_P 23 _ [.tmp 4, .tmp 5] Try.func25 rfl rfl rfl (by first | rfl | simp) ?_
  have hv0 := hv
  obtain ⟨a, b, rfl, hL, hA⟩ := hv
  have hwl := hw.len
  have lw := hw.lenD
  refine WD_first ?_
  try simp (disch := first | omega | (simp; done) | fail) [wrap64c, if_pos, if_neg, lw]
  refine stopK_heap fun h0 q_h0 => ?_
  refine stopK_go ?_
  have g_h0 : h0.get h.next = .cells [a, b] true true 1 := by simp [q_h0]
  have k_h0 : Adds h h0 := by rw [q_h0]; exact (by first | exact aK | exact kK)
  have n_h0 : h.next < h0.next := by simp [q_h0]; try omega
  try simp (disch := first | omega | (simp; done) | fail) [wrap64c, if_pos, if_neg, lw, g_h0]
  refine callG_c (by simp) (by simp) ?ha (waGood_ok h0 _ L A (hv0.keep k_h0.1)) ?_
  (case ha => simp (disch := first | omega | (simp; done) | fail) [wrap64c, if_pos, if_neg, lw, g_h0])
  by_cases c1 : goodB L A = true
  · by_cases c2 : ms.length ≤ 120
    · try simp (disch := first | omega | (simp; done) | fail) [wrap64c, if_pos, if_neg, lw, g_h0, c1, c2]
      obtain ⟨v1, h1, hc1, ha1, u1, rfl, hu1⟩ := waRun_ok h0 _ w L A ms (hv0.keep k_h0.1) (hw.keep k_h0.1) (good_of c1).ok
      refine callG_c (by simp) (by simp) ?ha (hc1) ?_
      (case ha => simp (disch := first | omega | (simp; done) | fail) [wrap64c, if_pos, if_neg, lw, g_h0, c1, c2])
      try simp (disch := first | omega | (simp; done) | fail) [wrap64c, if_pos, if_neg, lw, g_h0, c1, c2]
      exact done_ret rfl (by simp [isR, isG, runR, c1, c2, k_h0.1, (k_h0.trans ha1).1])
    · try simp (disch := first | omega | (simp; done) | fail) [wrap64c, if_pos, if_neg, lw, g_h0, c1, c2]
      exact done_ret rfl (by simp [isR, isG, runR, c1, c2, k_h0.1])
  · have c1' : goodB L A = false := by simpa using c1
    try simp (disch := first | omega | (simp; done) | fail) [wrap64c, if_pos, if_neg, lw, g_h0, c1, c1']
    exact done_ret rfl (by simp [isR, isG, runR, c1', k_h0.1])

theorem imIsRun_ok (h : Hp) (v w : Value) (L : List (List Int)) (A ms : List Int) (hv : Chips h v L A) (hw : Ints h w ms) : CallOK Try.prog 24 #[v, w] h (.tuple #[.bool (isR L A ms), .bool (isG L A ms)]) h := by
  refine callY_P 23 _ [.tmp 4, .tmp 5] Try.func24 rfl rfl rfl (by first | rfl | simp) ?_
  have hv0 := hv
  obtain ⟨a, b, rfl, hL, hA⟩ := hv
  have hwl := hw.len
  have lw := hw.lenD
  refine WD_first ?_
  try simp (disch := first | omega | (simp; done) | fail) [wrap64c, if_pos, if_neg, lw]
  refine stopK_heap fun h0 q_h0 => ?_
  refine stopK_go ?_
  have g_h0 : h0.get h.next = .cells [a, b] true true 1 := by simp [q_h0]
  have k_h0 : Adds h h0 := by rw [q_h0]; exact (by first | exact aK | exact kK)
  have n_h0 : h.next < h0.next := by simp [q_h0]; try omega
  try simp (disch := first | omega | (simp; done) | fail) [wrap64c, if_pos, if_neg, lw, g_h0]
  refine callG_c (by simp) (by simp) ?ha (imAreChips_ok h0 _ L A (hv0.keep k_h0.1)) ?_
  (case ha => simp (disch := first | omega | (simp; done) | fail) [wrap64c, if_pos, if_neg, lw, g_h0])
  by_cases c1 : goodB L A = true
  · by_cases c2 : ms.length ≤ 120
    · try simp (disch := first | omega | (simp; done) | fail) [wrap64c, if_pos, if_neg, lw, g_h0, c1, c2]
      obtain ⟨v1, h1, hc1, ha1, u1, rfl, hu1⟩ := imRunChips_ok h0 _ w L A ms (hv0.keep k_h0.1) (hw.keep k_h0.1)
      obtain ⟨p, q, S1, S2, rfl, hp, hq, s1, s2, s3⟩ := hu1
      refine callG_c (by simp) (by simp) ?ha (hc1) ?_
      (case ha => simp (disch := first | omega | (simp; done) | fail) [wrap64c, if_pos, if_neg, lw, g_h0, c1, c2])
      have ntp := hp.nt
      have csp := hp.cs
      have ntq := hq.nt
      have csq := hq.cs
      have n1 := ha1.1.1
      try simp (disch := first | omega | (simp; done) | fail) [wrap64c, if_pos, if_neg, lw, g_h0, c1, c2, ntp, csp, ntq, csq, putCells]
      have K1 := k_h0.trans ha1
      exact done_ret rfl ⟨by simp [isR, isG, c1, c2], (by first | exact aK | exact kK)⟩
    · try simp (disch := first | omega | (simp; done) | fail) [wrap64c, if_pos, if_neg, lw, g_h0, c1, c2]
      exact done_ret rfl (by simp [isR, isG, runR, c1, c2, k_h0.1])
  · have c1' : goodB L A = false := by simpa using c1
    try simp (disch := first | omega | (simp; done) | fail) [wrap64c, if_pos, if_neg, lw, g_h0, c1, c1']
    exact done_ret rfl (by simp [isR, isG, runR, c1', k_h0.1])

/-- What a function on chips and a number with chips and a truth as results is to do. -/
def FnCNC (f : FuncId) (R : List (List Int) → List Int → Int → Option (List Int)) : Prop :=
  ∀ (h : Hp) (v : Value) (L : List (List Int)) (A : List Int) (i : Int), Chips h v L A →
    ∃ v' h', CallOK Try.prog f #[v, .int .i64 i] h v' h' ∧ Adds h h' ∧ ∃ u, v' = .tuple #[u, .bool (R L A i).isSome] ∧ ChipsO (Btw h.next h'.next) h' u (chL L (R L A i)) (chA (R L A i))
noncomputable def moveR (L : List (List Int)) (A : List Int) (i : Int) : Option (List Int) := runR L A [i]

theorem imMoveChips_ok : FnCNC 27 moveR := by
  intro h v L A i hv
  refine callY_L (args := [v, .int .i64 i]) 12 _ [.cell 4 27, .tmp 5] Try.func27 rfl rfl rfl ?_
  have hv0 := hv
  obtain ⟨a, b, rfl, hL, hA⟩ := hv
  refine WD_first ?_
  try simp (disch := first | omega | (simp; done) | fail) [wrap64c, if_pos, if_neg]
  refine stopK_heap fun h0 q_h0 => ?_
  refine stopK_go ?_
  have k0 : Adds h h0 := by rw [q_h0]; exact (by first | exact aK | exact kK)
  have n0 : h0.next = h.next + 2 := by simp [q_h0]
  have g0 : h0.get h.next = .cells [a, b] true true 1 := by simp [q_h0]
  have z0 : h0.get (h.next + 1) = .cells [.slice none 0 0, .slice none 0 0] true true 1 := by simp [q_h0]
  try simp (disch := first | omega | (simp; done) | fail) [wrap64c, if_pos, if_neg, g0, z0]
  first | refine WY_heap fun h1 q_h1 => ?_ | refine callG_heap fun h1 q_h1 => ?_ | refine callP_heap fun h1 q_h1 => ?_ | refine callS_heap fun h1 q_h1 => ?_ | refine RY_heap fun h1 q_h1 => ?_ | refine PY_heap fun h1 q_h1 => ?_ | refine SY_heap fun h1 q_h1 => ?_ | refine doneY_heap fun h1 q_h1 => ?_ | refine loopK_heap fun h1 q_h1 => ?_ | refine thenY_heap fun h1 q_h1 => ?_ | refine thenM_heap fun h1 q_h1 => ?_
  have k1 : Adds h0 h1 := by rw [q_h1]; exact (by first | exact aK | exact kK)
  have n1 : h1.next = h0.next + 1 := by simp [q_h1]
  have z1 : h1.get (h.next + 1) = .cells [.slice none 0 0, .slice none 0 0] true true 1 := by rw [k1.1.2 _ (by omega)]; exact z0
  have hi1 : IntsO (Btw h0.next h1.next) h1 (.slice (some ⟨h0.next, 0, none⟩) 1 1) [i] := .mk (xs := [i]) (ex := true) ⟨Nat.le_refl _, by omega⟩ (by omega) (by simp) (by simp [q_h1])
  have K1 := k0.trans k1
  obtain ⟨v2, h2, hc2, ha2, u2, rfl, hu2⟩ := imRunChips_ok h1 _ _ L A [i] (hv0.keep K1.1) hi1.ints
  obtain ⟨p, q, S1, S2, rfl, hp, hq, s1, s2, s3⟩ := hu2
  refine callG_c (by simp) (by simp) ?ha (hc2) ?_
  (case ha => simp (disch := first | omega | (simp; done) | fail) [wrap64c, if_pos, if_neg, g0, z0, z1])
  have ntp := hp.nt
  have csp := hp.cs
  have ntq := hq.nt
  have csq := hq.cs
  have K2 := K1.trans ha2
  have n2 := ha2.1.1
  have z2 : h2.get (h.next + 1) = .cells [.slice none 0 0, .slice none 0 0] true true 1 := by rw [ha2.1.2 _ (by omega)]; exact z1
  try simp (disch := first | omega | (simp; done) | fail) [wrap64c, if_pos, if_neg, g0, z0, z1, ntp, csp, ntq, csq, z2, putCells]
  refine done_ret (by simp [putCells, z2]; rfl) ⟨(by first | exact aK | exact kK), _, rfl, p, q, S1, S2, by simp, hp.same (Same.put (Same.refl _ _) (fun e => by have := s1 _ e; unfold Btw at this; omega) _), hq.same (Same.put (Same.refl _ _) (fun e => by have := s2 _ e; unfold Btw at this; omega) _), fun x hx => ?_, fun x hx => ?_, s3⟩
  · have := s1 x hx; unfold Btw at *; simp; omega
  · have := s2 x hx; unfold Btw at *; simp; omega

theorem moveR_eq (L : List (List Int)) (A : List Int) (i : Int) : moveR L A i = if goodB L A = true then stepA L A i else none := by
  unfold moveR runR
  simp [runA]
  split
  · cases stepA L A i <;> rfl
  · rfl

theorem spMoveChips_ok : FnCNC 28 moveR := by
  intro h v L A m hv
  refine callY_L (args := [v, .int .i64 m]) 34 _ [.cell 4 27, .tmp 5] Try.func28 rfl rfl rfl ?_
  have hv0 := hv
  obtain ⟨a, b, rfl, hL, hA⟩ := hv
  have lA := hA.lenD
  have hAl := hA.len
  refine WD_first ?_
  try simp (disch := first | omega | (simp; done) | fail) [wrap64c, if_pos, if_neg, lA]
  refine stopK_heap fun h0 q_h0 => ?_
  refine stopK_go ?_
  have k0 : Adds h h0 := by rw [q_h0]; exact (by first | exact aK | exact kK)
  have n0 : h0.next = h.next + 2 := by simp [q_h0]
  have g0 : h0.get h.next = .cells [a, b] true true 1 := by simp [q_h0]
  have z0 : h0.get (h.next + 1) = .cells [.slice none 0 0, .slice none 0 0] true true 1 := by simp [q_h0]
  try simp (disch := first | omega | (simp; done) | fail) [wrap64c, if_pos, if_neg, lA, g0, z0]
  refine callG_c (by simp) (by simp) ?ha (waGood_ok h0 _ L A (hv0.keep k0.1)) ?_
  (case ha => simp (disch := first | omega | (simp; done) | fail) [wrap64c, if_pos, if_neg, lA, g0, z0])
  by_cases c1 : goodB L A = true
  · have ho := (good_of c1).ok
    obtain ⟨r1, r2⟩ := row_le ho.sh
    have hc := l1In_ok h0 m 0 ((A.length : Int) - 1)
    by_cases c2 : 0 ≤ m ∧ m ≤ (A.length : Int) - 1
    · rw [decide_eq_true c2] at hc
      try simp (disch := first | omega | (simp; done) | fail) [wrap64c, if_pos, if_neg, lA, g0, z0, c1]
      refine callG_c (by simp) (by simp) ?ha (hc) ?_
      (case ha => simp (disch := first | omega | (simp; done) | fail) [wrap64c, if_pos, if_neg, lA, g0, z0, c1])
      obtain ⟨i, hi'⟩ : ∃ i : Nat, m = (i : Int) := ⟨m.toNat, by omega⟩
      have hi : i < A.length := by omega
      try simp (disch := first | omega | (simp; done) | fail) [wrap64c, if_pos, if_neg, lA, g0, z0, c1, hi']
      refine callG_c (by simp) (by simp) ?ha (waCan_ok h0 _ b L A A i (hv0.keep k0.1) (hA.keep k0.1) ho.sh hi) ?_
      (case ha => simp (disch := first | omega | (simp; done) | fail) [wrap64c, if_pos, if_neg, lA, g0, z0, c1, hi'])
      by_cases c3 : canB L A i = true
      · try simp (disch := first | omega | (simp; done) | fail) [wrap64c, if_pos, if_neg, lA, g0, z0, c1, hi', c3]
        refine WD_drawC 6 rfl (by kernel_rfl) ?_
        try simp (disch := first | omega | (simp; done) | fail) [wrap64c, if_pos, if_neg, lA, g0, z0, c1, hi', c3]
        obtain ⟨u1, h1, hc1, ha1, hu1⟩ := waMove_ok h0 _ b L A A i (hv0.keep k0.1) (hA.keep k0.1) ho.sh ho.small hi
        refine callP_c (by simp) (by simp) ?ha (hc1) ?hadd ?_
        (case ha => simp (disch := first | omega | (simp; done) | fail) [wrap64c, if_pos, if_neg, lA, g0, z0, c1, hi', c3])
        (case hadd => first | assumption | exact adds_self _ | (simp; done))
        have K1 := k0.trans ha1
        have n1 := ha1.1.1
        try simp (disch := first | omega | (simp; done) | fail) [wrap64c, if_pos, if_neg, lA, g0, z0, c1, hi', c3]
        obtain ⟨v2, h2, hc2, ha2, u2, rfl, hu2⟩ := waWith_ok h1 _ u1 L A (moveA L A i) (hv0.keep K1.1) hu1.ints r1 r2
        refine callG_c (by simp) (by simp) ?ha (hc2) ?_
        (case ha => simp (disch := first | omega | (simp; done) | fail) [wrap64c, if_pos, if_neg, lA, g0, z0, c1, hi', c3])
        have z2 : h2.get (h.next + 1) = .cells [.slice none 0 0, .slice none 0 0] true true 1 := by rw [(ha1.trans ha2).1.2 _ (by omega)]; exact z0
        have n2 := ha2.1.1
        have K2 := K1.trans ha2
        have nt1 := hu1.nt
        have cs1 := hu1.cs
        have nt2 := hu2.nt
        have cs2 := hu2.cs
        have e : moveR L A m = some (moveA L A i) := by rw [moveR_eq, if_pos c1, hi']; exact stepA_some hi c3
        try simp (disch := first | omega | (simp; done) | fail) [wrap64c, if_pos, if_neg, lA, g0, z0, c1, hi', c3, z2, nt1, cs1, nt2, cs2, putCells]
        refine done_ret (by simp [putCells, z2]; rfl) ⟨(by first | exact aK | exact kK), _, by rw [e]; rfl, ?_⟩
        rw [e]
        refine ⟨u2, u1, Btw h1.next h2.next, Btw h0.next h1.next, by simp, hu2.same (Same.put (Same.refl _ _) (by unfold Btw; omega) _), (hu1.keep ha2.1).same (Same.put (Same.refl _ _) (by unfold Btw; omega) _), ?_, ?_, ?_⟩ <;> intro x <;> simp [Btw] <;> omega
      · have c3' : canB L A i = false := by simpa using c3
        have e : moveR L A m = none := by rw [moveR_eq, if_pos c1, hi']; exact stepA_cannot c3'
        try simp (disch := first | omega | (simp; done) | fail) [wrap64c, if_pos, if_neg, lA, g0, z0, c1, hi', c3, c3', putCells]
        refine done_ret (by simp [putCells, z0]; rfl) ⟨(by first | exact aK | exact kK), _, by rw [e]; rfl, ?_⟩
        rw [e]
        exact .nil _ _
    · rw [decide_eq_false c2] at hc
      try simp (disch := first | omega | (simp; done) | fail) [wrap64c, if_pos, if_neg, lA, g0, z0, c1]
      refine callG_c (by simp) (by simp) ?ha (hc) ?_
      (case ha => simp (disch := first | omega | (simp; done) | fail) [wrap64c, if_pos, if_neg, lA, g0, z0, c1])
      have e : moveR L A m = none := by rw [moveR_eq, if_pos c1]; exact stepA_out c2
      try simp (disch := first | omega | (simp; done) | fail) [wrap64c, if_pos, if_neg, lA, g0, z0, c1, putCells]
      refine done_ret (by simp [putCells, z0]; rfl) ⟨(by first | exact aK | exact kK), _, by rw [e]; rfl, ?_⟩
      rw [e]
      exact .nil _ _
  · have c1' : goodB L A = false := by simpa using c1
    have e : moveR L A m = none := by rw [moveR_eq, if_neg c1]
    try simp (disch := first | omega | (simp; done) | fail) [wrap64c, if_pos, if_neg, lA, g0, z0, c1, c1', putCells]
    refine done_ret (by simp [putCells, z0]; rfl) ⟨(by first | exact aK | exact kK), _, by rw [e]; rfl, ?_⟩
    rw [e]
    exact .nil _ _
end Go.Proofs.Ytnnjehonbolliaa
