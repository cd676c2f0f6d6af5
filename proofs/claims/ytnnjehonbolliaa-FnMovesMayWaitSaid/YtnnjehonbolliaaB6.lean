/- Full runs by choices: the program. -/
import Derived.Test.YtnnjehonbolliaaB5
namespace Go.Proofs.Ytnnjehonbolliaa
set_option linter.unusedSimpArgs false
set_option linter.unusedVariables false
set_option maxHeartbeats 4000000
open Go Go.Eng
attribute [local irreducible] WD RunD PreD Runs CallOK

theorem ia_upd {n : Nat} {S : Nat → Prop} {h h' : Hp} {v : Value} {xs : List Int} (hs : IntsA n h v xs) (hu : Upd S h h') (ho : OffF S v) : IntsA n h' v xs := by
  rcases hs with ⟨e1, e2⟩ | ⟨o, ex, rfl, q1, q2, q3⟩
  · exact .inl ⟨e1, e2⟩
  · exact .inr ⟨o, ex, rfl, q1, Nat.lt_of_lt_of_le q2 hu.1, by rw [hu.2 o q2 (ho _ _ _ _ rfl)]; exact q3⟩
theorem ia_keep {n : Nat} {h h' : Hp} {v : Value} {xs : List Int} (hs : IntsA n h v xs) (hk : Keeps h h') : IntsA n h' v xs := ia_upd (S := fun _ => False) hs ⟨hk.1, fun o ho _ => hk.2 o ho⟩ fun _ _ _ _ _ hf => hf

theorem imChosen_ok (h : Hp) (v w : Value) (l cs : List Int) (k : Nat) (hv : Ints h v l) (hw : Ints h w cs) (hl : 0 < l.length) (hcs : ∀ x ∈ cs, 0 ≤ x) : CallOK Try.prog 88 #[v, w, .int .i64 k] h (.int .i64 (l.getD (pickK l cs k) 0)) h := by
  refine callY_P 24 _ [.tmp 6] Try.func88 rfl rfl rfl (by first | rfl | simp) ?_
  have lv := hv.lenD
  have lw := hw.lenD
  have hne : ¬ l = [] := by intro e; rw [e] at hl; simp at hl
  obtain ⟨o_x, i_x, c_x, cs_x, own_x, ex_x, es_x, q_x, b_x, g_x, l_x, r_x⟩ := hv.open (hl)
  have z_x : ∀ h2 : i_x < cs_x.length, cs_x[i_x] = _ := fun h2 => r_x 0 (hl) h2
  by_cases hk : k < cs.length
  · have ek : pickK l cs k = (cs[k].tmod l.length).toNat := by simp [pickK, hk]
    have ek2 := (tmod_nat (hcs _ (List.getElem_mem hk)) hl)
    rw [← ek] at ek2
    have ek3 := ek2.1
    have ek4 := ek2.2
    obtain ⟨o_y, i_y, c_y, cs_y, own_y, ex_y, es_y, q_y, b_y, g_y, l_y, r_y⟩ := hw.open ((by omega))
    have z_y : ∀ h2 : i_y < cs_y.length, cs_y[i_y] = _ := fun h2 => r_y 0 ((by omega)) h2
    try simp (disch := first | omega | (simp; done) | fail) [wrap64c, if_pos, if_neg, lv, lw, hne, q_x, g_x, l_x, r_x, z_x, hk, ek3, q_y, g_y, l_y, r_y, z_y]
    exact done_ret rfl (by simp [ek4])
  · have ek : pickK l cs k = 0 := by simp [pickK, hk]
    try simp (disch := first | omega | (simp; done) | fail) [wrap64c, if_pos, if_neg, lv, lw, hne, q_x, g_x, l_x, r_x, z_x, hk]
    exact done_ret rfl (by simp [ek, hl])

/-- Full runs of chips. -/
noncomputable def fullR (L : List (List Int)) (A cs : List Int) : Option (List Int × List Int) := if goodB L A = true then fullA L cs 61 [] A else none
def snd? : Option (List Int × List Int) → Option (List Int)
  | some q => some q.2
  | none => none
theorem IntsO.lit0 {S : Nat → Prop} {h : Hp} {o : Nat} {ex : Bool} (hS : S o) (ho : o < h.next) (hg : h.get o = .cells [] true ex 1) : IntsO S h (.slice (some ⟨o, 0, none⟩) 0 0) [] := .mk (xs := []) hS ho (by decide) hg

theorem imFull_ok (h : Hp) (v w : Value) (L : List (List Int)) (A cs : List Int) (hv : Chips h v L A) (hw : Ints h w cs) (hcs : ∀ x ∈ cs, 0 ≤ x) :
    ∃ v' h', CallOK Try.prog 45 #[v, w] h v' h' ∧ Adds h h' ∧ ∃ u1 u2, v' = .tuple #[u1, u2, .bool (fullR L A cs).isSome] ∧ IntsO (Btw h.next h'.next) h' u1 (fRun (fullR L A cs)) ∧ ChipsO (Btw h.next h'.next) h' u2 (chL L (snd? (fullR L A cs))) (chA (snd? (fullR L A cs))) := by
  refine callY_L (args := [v, w]) 41 _ [.tmp 4, .cell 5 27, .tmp 6] Try.func45 rfl rfl rfl ?_
  have hv0 := hv
  obtain ⟨a, b, rfl, hL, hA⟩ := hv
  have hwl := hw.len
  have lw := hw.lenD
  refine WD_first ?_
  try simp (disch := first | omega | (simp; done) | fail) [wrap64c, if_pos, if_neg, lw]
  refine stopK_heap fun h0 q_h0 => ?_
  refine stopK_go ?_
  have k0 : Adds h h0 := by rw [q_h0]; exact (by first | exact aK | exact kK)
  have n0 : h0.next = h.next + 2 := by simp [q_h0]
  have g0 : h0.get h.next = .cells [a, b] true true 1 := by simp [q_h0]
  have z0 : h0.get (h.next + 1) = .cells [.slice none 0 0, .slice none 0 0] true true 1 := by simp [q_h0]
  try simp (disch := first | omega | (simp; done) | fail) [wrap64c, if_pos, if_neg, lw, g0, z0]
  refine callG_c (by simp) (by simp) ?ha (imAreChips_ok h0 _ L A (hv0.keep k0.1)) ?_
  (case ha => simp (disch := first | omega | (simp; done) | fail) [wrap64c, if_pos, if_neg, lw, g0, z0])
  by_cases c1 : goodB L A = true
  · have hg := good_of c1
    have ho := hg.ok
    have h5 := ho.le
    obtain ⟨r1, r2⟩ := row_le ho.sh
    have eF : fullR L A cs = fullA L cs 61 [] A := if_pos c1
    try simp (disch := first | omega | (simp; done) | fail) [wrap64c, if_pos, if_neg, lw, g0, z0, c1]
    first | refine WY_heap fun h1 q_h1 => ?_ | refine callG_heap fun h1 q_h1 => ?_ | refine callP_heap fun h1 q_h1 => ?_ | refine callS_heap fun h1 q_h1 => ?_ | refine RY_heap fun h1 q_h1 => ?_ | refine PY_heap fun h1 q_h1 => ?_ | refine SY_heap fun h1 q_h1 => ?_ | refine doneY_heap fun h1 q_h1 => ?_ | refine loopK_heap fun h1 q_h1 => ?_ | refine thenY_heap fun h1 q_h1 => ?_ | refine thenM_heap fun h1 q_h1 => ?_
    have k1 : Adds h0 h1 := by rw [q_h1]; exact (by first | exact aK | exact kK)
    have n1 : h1.next = h0.next + 1 := by simp [q_h1]
    have e1 : h1.get h0.next = .cells [] true true 1 := by simp [q_h1]
    have z1 : h1.get (h.next + 1) = .cells [.slice none 0 0, .slice none 0 0] true true 1 := by rw [k1.1.2 _ (by omega)]; exact z0
    have K1 := k0.trans k1
    obtain ⟨v2, h2, hc2, ha2, hi2⟩ := imCopied_ok h1 _ L A (hv0.keep K1.1) r1 r2 (by omega)
    obtain ⟨p, q, S1, S2, rfl, hp, hq, s1, s2, s3⟩ := hi2
    refine callG_c (by simp) (by simp) ?ha (hc2) ?_
    (case ha => simp (disch := first | omega | (simp; done) | fail) [wrap64c, if_pos, if_neg, lw, g0, z0, c1])
    have n2 := ha2.1.1
    have K2 := K1.trans ha2
    have ntp := hp.nt
    have csp := hp.cs
    have ntq := hq.nt
    have csq := hq.cs
    try simp (disch := first | omega | (simp; done) | fail) [wrap64c, if_pos, if_neg, lw, g0, z0, c1, ntp, csp, ntq, csq, putCells]
    first | refine WY_heap fun h3 q_h3 => ?_ | refine callG_heap fun h3 q_h3 => ?_ | refine callP_heap fun h3 q_h3 => ?_ | refine callS_heap fun h3 q_h3 => ?_ | refine RY_heap fun h3 q_h3 => ?_ | refine PY_heap fun h3 q_h3 => ?_ | refine SY_heap fun h3 q_h3 => ?_ | refine doneY_heap fun h3 q_h3 => ?_ | refine loopK_heap fun h3 q_h3 => ?_ | refine thenY_heap fun h3 q_h3 => ?_ | refine thenM_heap fun h3 q_h3 => ?_
    have k3 : Adds h2 h3 := by rw [q_h3]; exact (by first | exact aK | exact kK)
    have n3 : h3.next = h2.next + 1 := by simp [q_h3]
    have K3 := K2.trans k3
    have g3 : h3.get h2.next = .cells [p, q] true true 1 := by simp [q_h3]
    have z3 : h3.get (h.next + 1) = .cells [.slice none 0 0, .slice none 0 0] true true 1 := by rw [(ha2.trans k3).1.2 _ (by omega)]; exact z1
    have e3 : h3.get h0.next = .cells [] true true 1 := by rw [(ha2.trans k3).1.2 _ (by omega)]; exact e1
    refine WD_loopC [1, 5, 8] (fun m tm h' => ∃ run B u, m = 61 - run.length ∧ tm 7 = u ∧ (Adds h h') ∧ (h3.next ≤ h'.next) ∧ (h'.get h2.next = .cells [p, q] true true 1) ∧ (h'.get (h.next + 1) = .cells [.slice none 0 0, .slice none 0 0] true true 1) ∧ (IntsA h0.next h' u run) ∧ (IRowsO S1 h' p L) ∧ (IntsO S2 h' q B) ∧ (OffF (fun o => S1 o ∨ S2 o ∨ o = h2.next ∨ o = h.next + 1) u) ∧ (run.length ≤ 60) ∧ (Ok L B) ∧ (B.length = A.length) ∧ (fullA L cs (61 - run.length) run B = fullA L cs 61 [] A)) _ ⟨[], A, _, rfl, (by simp (disch := first | omega | (simp; done) | fail) [wrap64c, if_pos, if_neg, lw, g0, z0, c1, ntp, csp, ntq, csq, g3]), K3, (by first | omega | assumption | (simp (disch := first | omega | (simp; done) | fail) [wrap64c, if_pos, if_neg, lw, g0, z0, c1, ntp, csp, ntq, csq, g3] <;> omega)), g3, z3, (.lit (ex := true) (Nat.le_refl _) (by omega) e3), (hp.keep k3.1), (hq.keep k3.1), (OffF.mk fun hf => by rcases hf with hf | hf | hf | hf <;> first | (have := s1 _ hf; unfold Btw at this; omega) | (have := s2 _ hf; unfold Btw at this; omega) | omega), (by first | omega | assumption | (simp (disch := first | omega | (simp; done) | fail) [wrap64c, if_pos, if_neg, lw, g0, z0, c1, ntp, csp, ntq, csq, g3] <;> omega)), ho, rfl, rfl⟩ ?_
    rintro m tm h' hFr ⟨run, B, u, rfl, e7, ha, hn, hg', hz, hu, hp', hq', hof, hr, hoB, hlB, hF⟩
    simp only [FrameL] at hFr
    obtain ⟨f1_0, f5_0, f8_0, -⟩ := hFr
    try simp (disch := first | omega | (simp; done) | fail) [wrap64c, if_pos, if_neg, lw, g0, z0, c1, ntp, csp, ntq, csq, g3] at f1_0 f5_0 f8_0
    have e1 := f1_0
    have e5 := f5_0
    have e8 := f8_0
    have hS1 : ∀ o, S1 o → o < h'.next := fun o e => by have := s1 o e; unfold Btw at this; omega
    have hS2 : ∀ o, S2 o → o < h'.next := fun o e => by have := s2 o e; unfold Btw at this; omega
    have lu := hu.lenD
    have ntu := hu.nt
    have hfuel : 61 - run.length = (60 - run.length) + 1 := by omega
    try simp (disch := first | omega | (simp; done) | fail) [wrap64c, if_pos, if_neg, lw, g0, z0, c1, ntp, csp, ntq, csq, g3, e1, e5, e7, e8, hg', hz, lu, ntu]
    obtain ⟨u4, h4, hc4, ha4, hu4⟩ := imMoves_ok h' _ L B ⟨p, q, rfl, hp'.rows, hq'.ints⟩ hoB.sh
    refine callG_c (by simp) (by simp) ?ha (hc4) ?_
    (case ha => simp (disch := first | omega | (simp; done) | fail) [wrap64c, if_pos, if_neg, lw, g0, z0, c1, ntp, csp, ntq, csq, g3, e1, e5, e7, e8, hg', hz, lu, ntu])
    have n4 := ha4.1.1
    have K4 := ha.trans ha4
    have g4 : h4.get h2.next = .cells [p, q] true true 1 := by rw [ha4.1.2 _ (by omega)]; exact hg'
    have z4 : h4.get (h.next + 1) = .cells [.slice none 0 0, .slice none 0 0] true true 1 := by rw [ha4.1.2 _ (by omega)]; exact hz
    have hp4 := hp'.keep ha4.1
    have hq4 := hq'.keep ha4.1
    have hu4' := ia_keep hu ha4.1
    have l4 := hu4.lenD
    by_cases hml : 0 < (movesL L B).length
    · have hmle := movesL_length L B
      have hmne : ¬ movesL L B = [] := by intro e; rw [e] at hml; simp at hml
      by_cases h60 : run.length = 60
      · have h60b : ((run.length : Int) == 60) = true := by simp [h60]
        try simp (disch := first | omega | (simp; done) | fail) [wrap64c, if_pos, if_neg, lw, g0, z0, c1, ntp, csp, ntq, csq, g3, e1, e5, e7, e8, hg', hz, lu, ntu, g4, z4, l4, hml, hmne, h60b, putCells]
        have e : fullA L cs 61 [] A = none := by rw [← hF, hfuel, fullA, if_neg hmne, if_pos h60]
        have hK4 := K4.1.1
        refine done_ret (by simp [putCells, z4, e5]; rfl) ⟨(by first | exact aK | exact kK), _, _, by rw [eF, e]; rfl, by rw [eF, e]; exact .nil _ _, by rw [eF, e]; exact .nil _ _⟩
      · have h60b : ((run.length : Int) == 60) = false := by simp; omega
        have hk1 := pickK_lt hml hcs run.length
        obtain ⟨i, hi0, hi1, hi2⟩ := movesL_get hk1
        have hk2 : (movesL L B)[pickK (movesL L B) cs run.length]?.getD 0 = (i : Int) := by rw [List.getElem?_eq_getElem hk1]; exact hi0
        have hk3 : (movesL L B).getD (pickK (movesL L B) cs run.length) 0 = (i : Int) := by rw [List.getD_eq_getElem?_getD]; exact hk2
        have hpk : ((i : Int)).toNat = i := by simp
        try simp (disch := first | omega | (simp; done) | fail) [wrap64c, if_pos, if_neg, lw, g0, z0, c1, ntp, csp, ntq, csq, g3, e1, e5, e7, e8, hg', hz, lu, ntu, g4, z4, l4, hml, hmne, h60b]
        have hch := imChosen_ok h4 u4 w (movesL L B) cs run.length hu4.ints (hw.keep K4.1) hml hcs
        rw [hk3] at hch
        refine callG_c (by simp) (by simp) ?ha (hch) ?_
        (case ha => simp (disch := first | omega | (simp; done) | fail) [wrap64c, if_pos, if_neg, lw, g0, z0, c1, ntp, csp, ntq, csq, g3, e1, e5, e7, e8, hg', hz, lu, ntu, g4, z4, l4, hml, hmne, h60b])
        try simp (disch := first | omega | (simp; done) | fail) [wrap64c, if_pos, if_neg, lw, g0, z0, c1, ntp, csp, ntq, csq, g3, e1, e5, e7, e8, hg', hz, lu, ntu, g4, z4, l4, hml, hmne, h60b]
        obtain ⟨v5, h5', hc5, rfl, hW5, hu5⟩ := imMove_ok S2 S1 h4 p q L B i hp4.read hq4 s3 hoB.sh hoB.small hi1
        refine callG_c (by simp) (by simp) ?ha (hc5) ?_
        (case ha => simp (disch := first | omega | (simp; done) | fail) [wrap64c, if_pos, if_neg, lw, g0, z0, c1, ntp, csp, ntq, csq, g3, e1, e5, e7, e8, hg', hz, lu, ntu, g4, z4, l4, hml, hmne, h60b])
        have n5 := hW5.upd.1
        have K5 : Adds h h5' := K4.wr hW5 fun o e => by have := s2 o e; unfold Btw at this; omega
        have g5 : h5'.get h2.next = .cells [p, q] true true 1 := by rw [hW5.upd.2 _ (by omega) (fun e => by have := s2 _ e; unfold Btw at this; omega)]; exact g4
        have z5 : h5'.get (h.next + 1) = .cells [.slice none 0 0, .slice none 0 0] true true 1 := by rw [hW5.upd.2 _ (by omega) (fun e => by have := s2 _ e; unfold Btw at this; omega)]; exact z4
        have hp5 := hp4.same (hW5.upd.same s3)
        have hu5' := ia_upd hu4' hW5.upd (hof.mono fun o e => .inr (.inl e))
        try simp (disch := first | omega | (simp; done) | fail) [wrap64c, if_pos, if_neg, lw, g0, z0, c1, ntp, csp, ntq, csq, g3, e1, e5, e7, e8, hg', hz, lu, ntu, g4, z4, l4, hml, hmne, h60b]
        obtain ⟨u6, h6, hap, hu6, ha6, hn6, hs6⟩ := appI2 hu5' (i : Int) (by omega) (by omega) K5 (by omega)
        obtain ⟨sm6, of6⟩ := hs6 _ (fun o e => by rcases e with e | e | e | e <;> first | (have := hS1 _ e; omega) | (have := hS2 _ e; omega) | omega) hof
        try simp (disch := first | omega | (simp; done) | fail) [wrap64c, if_pos, if_neg, lw, g0, z0, c1, ntp, csp, ntq, csq, g3, e1, e5, e7, e8, hg', hz, lu, ntu, g4, z4, l4, hml, hmne, h60b, hap]
        refine loopK_next _ ?hm ?hf ⟨run ++ [(i : Int)], moveA L B i, u6, rfl, (by simp (disch := first | omega | (simp; done) | fail) [wrap64c, if_pos, if_neg, lw, g0, z0, c1, ntp, csp, ntq, csq, g3, e1, e5, e7, e8, hg', hz, lu, ntu, g4, z4, l4, hml, hmne, h60b] <;> omega), ha6, (by omega), (by rw [sm6.2 _ (.inr (.inr (.inl rfl))) (by omega)]; exact g5), (by rw [sm6.2 _ (.inr (.inr (.inr rfl))) (by omega)]; exact z5), hu6, (hp5.same ⟨sm6.1, fun o e e' => sm6.2 o (.inl e) e'⟩), (hu5.same ⟨sm6.1, fun o e e' => sm6.2 o (.inr (.inl e)) e'⟩), of6, (by simp; omega), (hoB.move hi1 hi2), (by simpa using hlB), (by rw [← hF, hfuel, fullA, if_neg hmne, if_neg h60, hk3, hpk]; simp [show 61 - (run.length + 1) = 60 - run.length by omega])⟩
        (case hm => first | omega | (simp; omega))
        (case hf => simp [FrameL, lw, g0, z0, c1, ntp, csp, ntq, csq, g3, e1, e5, e7, e8, hg', hz, lu, ntu, g4, z4, l4, hml, hmne, h60b, f1_0, f5_0, f8_0])
    · have hm0 : movesL L B = [] := List.length_eq_zero_iff.1 (by omega)
      have hmb : (((movesL L B).length : Int) == 0) = true := by simp [hm0]
      have e : fullA L cs 61 [] A = some (run, B) := by rw [← hF, hfuel, fullA, if_pos hm0]
      try simp (disch := first | omega | (simp; done) | fail) [wrap64c, if_pos, if_neg, lw, g0, z0, c1, ntp, csp, ntq, csq, g3, e1, e5, e7, e8, hg', hz, lu, ntu, g4, z4, l4, hml, hmb]
      refine WD_drawC 3 rfl (by kernel_rfl) ?_
      try simp (disch := first | omega | (simp; done) | fail) [wrap64c, if_pos, if_neg, lw, g0, z0, c1, ntp, csp, ntq, csq, g3, e1, e5, e7, e8, hg', hz, lu, ntu, g4, z4, l4, hml, hmb, putCells]
      have hK4 := K4.1.1
      refine done_ret (by simp [putCells, z4, e5]; rfl) ⟨(by first | exact aK | exact kK), u, _, by rw [eF, e]; rfl, ?_, ?_⟩
      · rw [eF, e]
        have hq5 := ia_upd (S := fun o => o = h.next + 1) (h' := h4.put (h.next + 1) (.cells [p, q] true true 1)) hu4' ⟨Nat.le_refl _, fun o _ hne => by simp [show ¬ o = h.next + 1 from hne]⟩ (hof.mono fun o e => .inr (.inr (.inr e)))
        exact (hq5.own (by omega)).sub fun x hx => ⟨by have := hx.1; omega, hx.2⟩
      · rw [eF, e]
        refine ⟨p, q, S1, S2, by simp, hp4.same (Same.put (Same.refl _ _) (fun e => by have := s1 _ e; unfold Btw at this; omega) _), hq4.same (Same.put (Same.refl _ _) (fun e => by have := s2 _ e; unfold Btw at this; omega) _), fun x hx => ?_, fun x hx => ?_, s3⟩
        · have := s1 x hx; unfold Btw at *; simp; omega
        · have := s2 x hx; unfold Btw at *; simp; omega
  · have c1' : goodB L A = false := by simpa using c1
    have eF : fullR L A cs = none := if_neg c1
    try simp (disch := first | omega | (simp; done) | fail) [wrap64c, if_pos, if_neg, lw, g0, z0, c1, c1', putCells]
    refine done_ret (by simp [putCells, z0]; rfl) ⟨(by first | exact aK | exact kK), _, _, by rw [eF]; rfl, by rw [eF]; exact .nil _ _, by rw [eF]; exact .nil _ _⟩
end Go.Proofs.Ytnnjehonbolliaa
