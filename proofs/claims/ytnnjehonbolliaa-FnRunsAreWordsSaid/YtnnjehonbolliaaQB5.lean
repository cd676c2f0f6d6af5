/- Part 5 of the proof of runsAreWords_holds: what it uses of the texts that lie in the notes, merged. -/
import Derived.Test.YtnnjehonbolliaaQB4
namespace Go.Proofs.Ytnnjehonbolliaa
set_option linter.unusedSimpArgs false
set_option linter.unusedVariables false
set_option maxHeartbeats 4000000
open Go Go.Eng
attribute [local irreducible] WD RunD PreD Runs CallOK
theorem waStart_ok {L : List (List Int)} {A : List Int} (hs : Shape L A.length) (h : Hp) (v : Value) (hv : Chips h v L A) :
    ∃ v' h', CallOK Try.prog 81 #[v] h v' h' ∧ Adds h h' ∧ GL 3 stR h.next h' v' (stateS L A 0) := by
  refine callY_L (args := [v]) 12 _ [.tmp 2] Try.func81 rfl rfl rfl ?_
  have hv0 := hv
  obtain ⟨a, b, rfl, hL, hA⟩ := hv
  have h5 := hs.le
  have lA := hA.lenD
  have hz3 : zarr #[Value.slice none 0 0, Value.slice none 0 0, Value.int .i64 0] 3 = #[Value.slice none 0 0, Value.slice none 0 0, Value.int .i64 0] := zarr3s _ _ _
  refine WD_first ?_
  try simp (disch := first | omega | (simp; done) | fail) [wrap64c, if_pos, if_neg, lA, hz3]
  refine stopK_heap fun h0 q_h0 => ?_
  refine stopK_go ?_
  have g_h0 : h0.get h.next = .cells [a, b] true true 1 := by simp [q_h0]
  have k_h0 : Adds h h0 := by rw [q_h0]; exact (by first | exact aK | exact kK)
  have n_h0 : h.next < h0.next := by simp [q_h0]; try omega
  try simp (disch := first | omega | (simp; done) | fail) [wrap64c, if_pos, if_neg, lA, hz3, g_h0]
  refine WD_drawC 7 rfl (by kernel_rfl) ?_
  try simp (disch := first | omega | (simp; done) | fail) [wrap64c, if_pos, if_neg, lA, hz3, g_h0, (by omega : (A.length : Int) < 140737488355328), (by omega : (8 : Int) * A.length ≤ 281474976710656)]
  first | refine WY_heap fun h1 q_h1 => ?_ | refine callG_heap fun h1 q_h1 => ?_ | refine callP_heap fun h1 q_h1 => ?_ | refine callS_heap fun h1 q_h1 => ?_ | refine RY_heap fun h1 q_h1 => ?_ | refine PY_heap fun h1 q_h1 => ?_ | refine SY_heap fun h1 q_h1 => ?_ | refine doneY_heap fun h1 q_h1 => ?_ | refine loopK_heap fun h1 q_h1 => ?_ | refine thenY_heap fun h1 q_h1 => ?_ | refine thenM_heap fun h1 q_h1 => ?_
  have k1 : Adds h0 h1 := by rw [q_h1]; exact (by first | exact aK | exact kK)
  have n1 : h1.next = h0.next + 1 := by simp [q_h1]
  have g1 : h1.get h0.next = .cells ((List.replicate A.length (0 : Int)).map (.int .i64)) true true 1 := by simp [q_h1]
  obtain ⟨u2, h2, hc2, ha2, hu2, _⟩ := l1Own_ok h1 b A (hA.keep (k_h0.trans k1).1) (by omega)
  refine callP_c (by simp) (by simp) ?ha (hc2) ?hadd ?_
  (case ha => simp (disch := first | omega | (simp; done) | fail) [wrap64c, if_pos, if_neg, lA, hz3, g_h0])
  (case hadd => first | assumption | exact adds_self _ | (simp; done))
  have n2 := ha2.1.1
  have nt2 := hu2.nt
  have cs2 := hu2.cs
  try simp (disch := first | omega | (simp; done) | fail) [wrap64c, if_pos, if_neg, lA, hz3, g_h0, nt2, cs2]
  first | refine WY_heap fun h3 q_h3 => ?_ | refine callG_heap fun h3 q_h3 => ?_ | refine callP_heap fun h3 q_h3 => ?_ | refine callS_heap fun h3 q_h3 => ?_ | refine RY_heap fun h3 q_h3 => ?_ | refine PY_heap fun h3 q_h3 => ?_ | refine SY_heap fun h3 q_h3 => ?_ | refine doneY_heap fun h3 q_h3 => ?_ | refine loopK_heap fun h3 q_h3 => ?_ | refine thenY_heap fun h3 q_h3 => ?_ | refine thenM_heap fun h3 q_h3 => ?_
  have k3 : Adds h2 h3 := by rw [q_h3]; exact (by first | exact aK | exact kK)
  have n3 : h3.next = h2.next + 1 := by simp [q_h3]
  have g3 : h3.get h2.next = .cells [.slice (some ⟨h0.next, 0, none⟩) A.length A.length, u2, .int .i64 1] true true 3 := by simp [q_h3]
  have hz : IntsO (Btw h0.next h1.next) h1 (.slice (some ⟨h0.next, 0, none⟩) A.length A.length) (List.replicate A.length (0 : Int)) := by
    have := IntsO.mk (S := Btw h0.next h1.next) (xs := List.replicate A.length (0 : Int)) (ex := true) ⟨Nat.le_refl _, by omega⟩ (by omega) (by simp; omega) g1
    simpa using this
  refine done_ret rfl ⟨((k_h0.trans k1).trans ha2).trans k3, .inr ⟨h2.next, true, _, by simp [stateS], by omega, by omega, g3, rfl, fun k hk => ?_⟩⟩
  have : k = 0 := by simp [stateS] at hk; exact hk
  subst this
  refine ⟨_, _, rfl, ?_, ?_⟩
  · exact ((hz.keep (ha2.trans k3).1).read).sub fun o ho => ⟨by have := ho.1; omega, by have := ho.2; omega⟩
  · exact ((hu2.keep k3.1).read).sub fun o ho => ⟨by have := ho.1; omega, by have := ho.2; omega⟩
theorem specRuns_ok (h : Hp) (v : Value) (L : List (List Int)) (A : List Int) (hv : Chips h v L A) :
    CallOK Try.prog 37 #[v] h (.tuple #[.int .i64 (runsN L A), .bool (runsB L A)]) h := by
  refine callY_P 38 _ [.tmp 2, .tmp 3] Try.func37 rfl rfl rfl (by first | rfl | simp) ?_
  have hv0 := hv
  obtain ⟨a, b, rfl, hL, hA⟩ := hv
  refine WD_first ?_
  try simp (disch := first | omega | (simp; done) | fail) [wrap64c, if_pos, if_neg]
  refine stopK_heap fun h0 q_h0 => ?_
  refine stopK_go ?_
  have g_h0 : h0.get h.next = .cells [a, b] true true 1 := by simp [q_h0]
  have k_h0 : Adds h h0 := by rw [q_h0]; exact (by first | exact aK | exact kK)
  have n_h0 : h.next < h0.next := by simp [q_h0]; try omega
  try simp (disch := first | omega | (simp; done) | fail) [wrap64c, if_pos, if_neg, g_h0]
  refine callG_c (by simp) (by simp) ?ha (waGood_ok h0 _ L A (hv0.keep k_h0.1)) ?_
  (case ha => simp (disch := first | omega | (simp; done) | fail) [wrap64c, if_pos, if_neg, g_h0])
  by_cases c1 : goodB L A = true
  case neg =>
    have c1' : goodB L A = false := by simpa using c1
    have hk : runsB L A = false := by simp [runsB, fullR, c1]
    try simp (disch := first | omega | (simp; done) | fail) [wrap64c, if_pos, if_neg, g_h0, c1, c1']
    exact done_ret rfl (by simp [runsN, hk, k_h0.1])
  have ho := (good_of c1).ok
  try simp (disch := first | omega | (simp; done) | fail) [wrap64c, if_pos, if_neg, g_h0, c1]
  obtain ⟨v1, h1, hc1, ha1, u1, u2, rfl, hu1, hu2⟩ := waFull_ok h0 _ (.slice none 0 0) L A [] (hv0.keep k_h0.1) (Ints.nil _) ho (by simp)
  have eB : fullR L A [] = fullA L [] 61 [] A := if_pos c1
  rw [← eB] at hc1 hu1
  refine callG_c (by simp) (by simp) ?ha (hc1) ?_
  (case ha => simp (disch := first | omega | (simp; done) | fail) [wrap64c, if_pos, if_neg, g_h0, c1])
  have n1 := ha1.1.1
  have K1 := k_h0.trans ha1
  have g1 : h1.get h.next = .cells [a, b] true true 1 := by rw [ha1.1.2 _ n_h0]; exact g_h0
  cases hf : fullR L A [] with
  | none =>
    have hf' := hf
    have hk : runsB L A = false := by simp [runsB, hf]
    try simp (disch := first | omega | (simp; done) | fail) [wrap64c, if_pos, if_neg, g_h0, c1, g1, hf']
    exact done_ret rfl (by simp [runsN, hk, K1.1])
  | some p =>
    obtain ⟨run, E⟩ := p
    have hf' := hf
    have f := fullR_fin (by simp) hf
    have hR : run.length ≤ 60 := (fullR_len (by simp) hf).1
    rw [hf] at hu1
    have lu1 := hu1.lenD
    have hfr : fRun (some (run, E)) = run := rfl
    obtain ⟨v2, h2, hc2, ha2, hg2⟩ := waStart_ok ho.sh h1 (.agg #[a, b]) (hv0.keep K1.1)
    have n2 := ha2.1.1
    have g2 : h2.get h.next = .cells [a, b] true true 1 := by rw [ha2.1.2 _ (by omega)]; exact g1
    try simp (disch := first | omega | (simp; done) | fail) [wrap64c, if_pos, if_neg, g_h0, c1, g1, hf', lu1, hfr]
    refine callG_c (by simp) (by simp) ?ha (hc2) ?_
    (case ha => simp (disch := first | omega | (simp; done) | fail) [wrap64c, if_pos, if_neg, g_h0, c1, g1, hf', lu1, hfr])
    try simp (disch := first | omega | (simp; done) | fail) [wrap64c, if_pos, if_neg, g_h0, c1, g1, hf', lu1, hfr]
    refine WD_loopC [1, 22] (fun m tm h' => ∃ j w, m = run.length - j ∧ tm 7 = w ∧ tm 23 = .int .i64 (j : Int) ∧ (j ≤ run.length) ∧ (Keeps h h') ∧ (h'.get h.next = .cells [a, b] true true 1) ∧ (h.next < h'.next) ∧ (∃ B, GL 3 stR B h' w (stateS L A j))) _ ⟨0, v2, rfl, (by simp (disch := first | omega | (simp; done) | fail) [wrap64c, if_pos, if_neg, g_h0, c1, g1, hf', lu1, hfr]), (by simp (disch := first | omega | (simp; done) | fail) [wrap64c, if_pos, if_neg, g_h0, c1, g1, hf', lu1, hfr]), (by first | omega | assumption | (simp (disch := first | omega | (simp; done) | fail) [wrap64c, if_pos, if_neg, g_h0, c1, g1, hf', lu1, hfr] <;> omega)), (K1.1.trans ha2.1), g2, (by omega), ⟨_, hg2⟩⟩ ?_
    rintro m tm h' hFr ⟨j, w, rfl, e7, e23, hj, ha, hg, hn, hw⟩
    simp only [FrameL] at hFr
    obtain ⟨f1_0, f22_0, -⟩ := hFr
    try simp (disch := first | omega | (simp; done) | fail) [wrap64c, if_pos, if_neg, g_h0, c1, g1, hf', lu1, hfr] at f1_0 f22_0
    have e1 := f1_0
    have e22 := f22_0
    rename Hp => hq
    obtain ⟨B, hw⟩ := hw
    by_cases hlt : j < run.length
    · obtain ⟨hI, _, _⟩ := stateS_inv f ho.sh j hj
      obtain ⟨v3, h3, hc3, ha3, hg3⟩ := waStates_ok f ho.sh ho hR hlt hq (.agg #[a, b]) w _ B (hv0.keep ha) hw hI
      have n3 := ha3.1.1
      try simp (disch := first | omega | (simp; done) | fail) [wrap64c, if_pos, if_neg, g_h0, c1, g1, hf', lu1, hfr, e1, e7, e22, e23, hg, hlt]
      refine callG_c (by simp) (by simp) ?ha (hc3) ?_
      (case ha => simp (disch := first | omega | (simp; done) | fail) [wrap64c, if_pos, if_neg, g_h0, c1, g1, hf', lu1, hfr, e1, e7, e22, e23, hg, hlt])
      try simp (disch := first | omega | (simp; done) | fail) [wrap64c, if_pos, if_neg, g_h0, c1, g1, hf', lu1, hfr, e1, e7, e22, e23, hg, hlt]
      refine loopK_next _ ?hm ?hf ⟨j + 1, v3, rfl, (by simp (disch := first | omega | (simp; done) | fail) [wrap64c, if_pos, if_neg, g_h0, c1, g1, hf', lu1, hfr, e1, e7, e22, e23, hg, hlt] <;> omega), (by simp (disch := first | omega | (simp; done) | fail) [wrap64c, if_pos, if_neg, g_h0, c1, g1, hf', lu1, hfr, e1, e7, e22, e23, hg, hlt] <;> omega), (by first | omega | assumption | (simp (disch := first | omega | (simp; done) | fail) [wrap64c, if_pos, if_neg, g_h0, c1, g1, hf', lu1, hfr, e1, e7, e22, e23, hg, hlt] <;> omega)), (ha.trans ha3.1), (by rw [ha3.1.2 _ (by omega)]; exact hg), (by first | omega | assumption | (simp (disch := first | omega | (simp; done) | fail) [wrap64c, if_pos, if_neg, g_h0, c1, g1, hf', lu1, hfr, e1, e7, e22, e23, hg, hlt] <;> omega)), ⟨_, hg3⟩⟩
      (case hm => first | omega | (simp; omega))
      (case hf => simp [FrameL, g_h0, c1, g1, hf', lu1, hfr, e1, e7, e22, e23, hg, hlt, f1_0, f22_0])
    · have hje : j = run.length := by omega
      have hend := stateS_end f ho.sh
      rw [hje, hend] at hw
      obtain ⟨o, cs, ex, y, z, y1, y2, y3, y4, y5, ⟨y6, y7, y8⟩, _, _⟩ := stG_at hw (k := 0) (by simp)
      have y1' := y1
      simp only [List.length_cons, List.length_nil] at y4
      have y4' : cs.length = 3 := by omega
      obtain ⟨W, hW⟩ : ∃ W, W = wN L run.length A := ⟨_, rfl⟩
      simp only [List.getElem_cons_zero, ← hW] at y8 y5
      have y8' : ∀ h2 : 0 * 3 + 2 < cs.length, cs[0 * 3 + 2] = .int .i64 ((capN W : Nat) : Int) := fun h2 => (List.getElem?_eq_some_iff.1 y8).2
      have y9' : ∀ h2 : 2 < cs.length, cs[2] = .int .i64 ((capN W : Nat) : Int) := fun h2 => by simpa using y8' (by omega)
      by_cases hc : W ≤ 1000000000
      · have hk : runsB L A = true := by simp [runsB, hf, fst?, ← hW, hc]
        have hcw : capN W = W := by unfold capN; omega
        have hgt : ¬ (1000000000 : Int) < (W : Int) := by omega
        try simp (disch := first | omega | (simp; done) | fail) [wrap64c, if_pos, if_neg, g_h0, c1, g1, hf', lu1, hfr, e1, e7, e22, e23, hg, hlt, y1', y3, y4, y5, y6, y7, y8, y4', y9', hcw, hgt]
        exact done_ret rfl (by simp [runsN, hk, hf, fst?, ← hW, ha])
      · have hk : runsB L A = false := by simp [runsB, hf, fst?, ← hW, hc]
        have hcw : capN W = 1000000001 := by unfold capN; omega
        try simp (disch := first | omega | (simp; done) | fail) [wrap64c, if_pos, if_neg, g_h0, c1, g1, hf', lu1, hfr, e1, e7, e22, e23, hg, hlt, y1', y3, y4, y5, y6, y7, y8, y4', y9', hcw]
        exact done_ret rfl (by simp [runsN, hk, ha])
end Go.Proofs.Ytnnjehonbolliaa
namespace Go.Proofs.Ytnnjehonbolliaa
set_option linter.unusedSimpArgs false
set_option linter.unusedVariables false
set_option maxHeartbeats 4000000
open Go Go.Eng
attribute [local irreducible] WD RunD PreD Runs CallOK
theorem wr_trans3 {S T : Nat → Prop} {a b c : Hp} (k : Wr S a b) (l : Wr T b c) (hst : ∀ o, o < a.next → T o → S o) : Wr S a c where
  upd := ⟨Nat.le_trans k.upd.1 l.upd.1, fun o ho hs => (l.upd.2 o (Nat.lt_of_lt_of_le ho k.upd.1) (fun ht => hs (hst o ho ht))).trans (k.upd.2 o ho hs)⟩
  own o ho hs hl := by
    by_cases ht : T o
    · rcases l.own o (Nat.lt_of_lt_of_le ho k.upd.1) ht hl with h1 | h1
      · exact .inl h1
      · rw [h1] at hl ⊢
        exact k.own o ho hs hl
    · have h1 := l.upd.2 o (Nat.lt_of_lt_of_le ho k.upd.1) ht
      rw [h1] at hl ⊢
      exact k.own o ho hs hl
  new o h1 h2 hl := by
    by_cases hb : o < b.next
    · by_cases ht : T o
      · rcases l.own o hb ht hl with h3 | h3
        · exact h3
        · rw [h3] at hl ⊢
          exact k.new o h1 hb hl
      · have h3 := l.upd.2 o hb ht
        rw [h3] at hl ⊢
        exact k.new o h1 hb hl
    · exact l.new o (by omega) h2 hl
theorem from_ok {L : List (List Int)} {A X E : List Int} {R : Nat} (f : FinR L A X E R) (hs : Shape L A.length) (ho : Ok L A) (hR60 : R ≤ 60) {P : List (List Int) → Hp → Prop} {base : Nat} {S : Nat → Prop} {fid : Nat} {dc : Array Value} (D : DoerC L A P base S fid dc) (od q om of_ : Nat) (av : Value) :
    ∀ (n : Nat) (h : Hp) (x B : List Int) (bv : Value) (En : List (Value × Value)) (s : List (List Int)), ReSt base od q om of_ fid dc En h → P s h → Rn L A x B → x.sum + (n : Int) = R → IRowsF (fun o => o < base ∧ ¬ S o) h av L → IntsF (fun o => (o < base ∧ ¬ S o) ∨ of_ < o) h bv B → MemC L A R En → ClosedK L A En → (∀ y, y.length = A.length → hasK En y → y ∈ s) →
    ∃ u h', CallOK Try.prog 99 #[.agg #[av, bv], keyC x, .pointer (some ⟨om, 0, none⟩), .pointer (some ⟨od, 0, none⟩), .pointer (some ⟨of_, 0, none⟩)] h u h' ∧ ∃ En' s', u = .int .i64 ((capN (wN L n B) : Nat) : Int) ∧ Wr (fun o => S o ∨ o = q) h h' ∧
      ReSt base od q om of_ fid dc En' h' ∧ P s' h' ∧ MemC L A R En' ∧ ClosedK L A En' ∧ (∀ y, hasK En y → hasK En' y) ∧ hasK En' x ∧ (∀ y, y.length = A.length → hasK En' y → y ∈ s') ∧ (∀ y ∈ s, y ∈ s') ∧ (∀ y ∈ s', y ∈ s ∨ ∃ C, Rn L A y C) := by
  intro n
  induction n using Nat.strongRecOn with
  | ind n ih =>
  intro h x B bv En s hst hP hr hx hL hB hM hC hks
  have hlen := hr.len
  have h5 := hs.le
  have hx5 : x.length ≤ 5 := by omega
  obtain ⟨a1, a2, a3, a4, a5, hpd⟩ := pad_five hx5
  have hkey := keyC_five hpd
  have hoB := hr.ok ho
  have hsB : Shape L B.length := hoB.sh
  obtain ⟨o1, o2, o3, o4, o5⟩ := hst.ord
  have nta := hL.sl.nt
  have csa := hL.sl.cs
  have ntb := hB.ints.nt
  have csb := hB.ints.cs
  have hfn := D.fn
  refine callY_L (args := [.agg #[av, bv], keyC x, .pointer (some ⟨om, 0, none⟩), .pointer (some ⟨od, 0, none⟩), .pointer (some ⟨of_, 0, none⟩)]) 65 _ [.tmp 7] Try.func99 rfl rfl rfl ?_
  rw [hkey]
  refine WD_first ?_
  try simp (disch := first | omega | (simp; done) | fail) [wrap64c, if_pos, if_neg, nta, csa, ntb, csb, hfn]
  refine stopK_heap fun h0 q_h0 => ?_
  refine stopK_go ?_
  have k0 : Adds h h0 := by rw [q_h0]; exact (by first | exact aK | exact kK)
  have n0 : h0.next = h.next + 2 := by simp [q_h0]
  have gc0 : h0.get h.next = .cells [av, bv] true true 1 := by simp [q_h0]
  have gk0 : h0.get (h.next + 1) = .cells [.int .i64 a1, .int .i64 a2, .int .i64 a3, .int .i64 a4, .int .i64 a5] true true 1 := by simp [q_h0]
  have hst0 := hst.keep k0.1.1 fun o _ ho => k0.1.2 o ho
  have gm0 := hst0.gm
  have gd0 := hst0.gd
  have gq0 := hst0.gq
  have hky : keysOK 5 En = true := hM.keys hs
  have hkk : isKey 5 (.agg #[.int .i64 a1, .int .i64 a2, .int .i64 a3, .int .i64 a4, .int .i64 a5]) = true := rfl
  have hP0 := D.stab s h h0 hP (by omega) k0.1.1 fun o ho => k0.1.2 o (by omega)
  rcases hM.get hs hr hx with hg | ⟨hg, hhas⟩
  case inr =>
    rw [hkey] at hg
    have hg := hg
    try simp (disch := first | omega | (simp; done) | fail) [wrap64c, if_pos, if_neg, nta, csa, ntb, csb, hfn, gc0, gk0, gm0, gd0, gq0, hky, hkk, hg]
    exact done_ret rfl ⟨En, s, rfl, .of_adds k0, hst0, hP0, hM, hC, fun y h => h, hhas, hks, fun y h => h, fun y h => .inl h⟩
  rw [hkey] at hg
  have hg := hg
  try simp (disch := first | omega | (simp; done) | fail) [wrap64c, if_pos, if_neg, nta, csa, ntb, csb, hfn, gc0, gk0, gm0, gd0, gq0, hky, hkk, hg]
  obtain ⟨u1, h1, hc1, W1, P1⟩ := D.run s h0 x B hP0 (by omega) hr
  rw [hkey] at hc1
  refine callG_f (fst := #[]) (cap := dc) (by simp) (by simp) ?hf ?hk ?ha (hc1) ?_
  (case hf => simp (disch := first | omega | (simp; done) | fail) [wrap64c, if_pos, if_neg, nta, csa, ntb, csb, hfn, gc0, gk0, gm0, gd0, gq0, hky, hkk, hg]; try rfl)
  (case hk => simp (disch := first | omega | (simp; done) | fail) [wrap64c, if_pos, if_neg, nta, csa, ntb, csb, hfn, gc0, gk0, gm0, gd0, gq0, hky, hkk, hg])
  (case ha => simp (disch := first | omega | (simp; done) | fail) [wrap64c, if_pos, if_neg, nta, csa, ntb, csb, hfn, gc0, gk0, gm0, gd0, gq0, hky, hkk, hg])
  have n1 := W1.upd.1
  have keep1 : ∀ o, base ≤ o → o < h0.next → h1.get o = h0.get o := fun o hb hl => W1.upd.2 o hl fun q => by have := D.low o q; omega
  have hst1 := hst0.keep n1 keep1
  have gc1 : h1.get h.next = .cells [av, bv] true true 1 := by rw [keep1 _ (by omega) (by omega)]; exact gc0
  have gk1 : h1.get (h.next + 1) = .cells [.int .i64 a1, .int .i64 a2, .int .i64 a3, .int .i64 a4, .int .i64 a5] true true 1 := by rw [keep1 _ (by omega) (by omega)]; exact gk0
  have Wq : Wr (fun o => S o ∨ o = q) h h1 := (Wr.of_adds k0).trans (W1.mono fun o _ e => .inl e)
  have hL1 := hL.same (Wq.upd.same fun o ho e => by rcases e with e | e; exact ho.2 e; have := ho.1; omega)
  have hB1 := hB.same (Wq.upd.same fun o ho e => by
    rcases ho with ho | ho <;> rcases e with e | e
    · exact ho.2 e
    · have := ho.1; omega
    · have := D.low o e; omega
    · omega)
  obtain ⟨u2, h2, hc2, ha2, hu2⟩ := imMoves_ok h1 (.agg #[av, bv]) L B ⟨av, bv, rfl, hL1.rows, hB1.ints⟩ hsB
  have n2 := ha2.1.1
  obtain ⟨M, hMe⟩ : ∃ M, M = movesL L B := ⟨_, rfl⟩
  have hMl : M.length ≤ 5 := by rw [hMe]; have := movesL_length L B; omega
  rw [← hMe] at hu2
  have lM := hu2.lenD
  try simp (disch := first | omega | (simp; done) | fail) [wrap64c, if_pos, if_neg, nta, csa, ntb, csb, hfn, gc0, gk0, gm0, gd0, gq0, hky, hkk, hg, gc1, gk1, lM]
  refine callG_c (by simp) (by simp) ?ha (hc2) ?_
  (case ha => simp (disch := first | omega | (simp; done) | fail) [wrap64c, if_pos, if_neg, nta, csa, ntb, csb, hfn, gc0, gk0, gm0, gd0, gq0, hky, hkk, hg, gc1, gk1, lM])
  have hst2 := hst1.keep n2 fun o _ hl => ha2.1.2 o hl
  have P2 := D.stab _ h1 h2 P1 (by omega) n2 fun o hl => ha2.1.2 o (by omega)
  have gc2 : h2.get h.next = .cells [av, bv] true true 1 := by rw [ha2.1.2 _ (by omega)]; exact gc1
  have gk2 : h2.get (h.next + 1) = .cells [.int .i64 a1, .int .i64 a2, .int .i64 a3, .int .i64 a4, .int .i64 a5] true true 1 := by rw [ha2.1.2 _ (by omega)]; exact gk1
  have W2 : Wr (fun o => S o ∨ o = q) h h2 := Wq.trans (.of_adds ha2)
  by_cases hM0 : M.length = 0
  · have hM0' : ((M.length : Int) == 0) = true := by simp [hM0]
    have hMv : movesL L B = [] := by rw [← hMe]; exact List.length_eq_zero_iff.1 hM0
    have hw1 : wN L n B = 1 := by cases n <;> simp [wN, hMv]
    have hcap : ((capN (wN L n B) : Nat) : Int) = 1 := by rw [hw1]; rfl
    try simp (disch := first | omega | (simp; done) | fail) [wrap64c, if_pos, if_neg, nta, csa, ntb, csb, hfn, gc0, gk0, gm0, gd0, gq0, hky, hkk, hg, gc1, gk1, lM, hM0']
    refine WD_loopC [2, 4, 5, 6, 32, 33] (fun m tm h' => ∃ j, m = M.length - j ∧ h2 = h' ∧ tm 11 = .int .i64 1 ∧ tm 34 = .int .i64 (j : Int) ∧ (j ≤ M.length)) _ ⟨0, rfl, rfl, (by simp (disch := first | omega | (simp; done) | fail) [wrap64c, if_pos, if_neg, nta, csa, ntb, csb, hfn, gc0, gk0, gm0, gd0, gq0, hky, hkk, hg, gc1, gk1, lM, hM0']), (by simp (disch := first | omega | (simp; done) | fail) [wrap64c, if_pos, if_neg, nta, csa, ntb, csb, hfn, gc0, gk0, gm0, gd0, gq0, hky, hkk, hg, gc1, gk1, lM, hM0']), (by first | omega | assumption | (simp (disch := first | omega | (simp; done) | fail) [wrap64c, if_pos, if_neg, nta, csa, ntb, csb, hfn, gc0, gk0, gm0, gd0, gq0, hky, hkk, hg, gc1, gk1, lM, hM0'] <;> omega))⟩ ?_
    rintro m tm h' hFr ⟨j, rfl, rfl, e11, e34, hj⟩
    simp only [FrameL] at hFr
    obtain ⟨f2_0, f4_0, f5_0, f6_0, f32_0, f33_0, -⟩ := hFr
    try simp (disch := first | omega | (simp; done) | fail) [wrap64c, if_pos, if_neg, nta, csa, ntb, csb, hfn, gc0, gk0, gm0, gd0, gq0, hky, hkk, hg, gc1, gk1, lM, hM0'] at f2_0 f4_0 f5_0 f6_0 f32_0 f33_0
    have e2 := f2_0
    have e4 := f4_0
    have e5 := f5_0
    have e6 := f6_0
    have e32 := f32_0
    have e33 := f33_0
    have hjl : ¬ (j : Int) < (M.length : Int) := by omega
    try simp (disch := first | omega | (simp; done) | fail) [wrap64c, if_pos, if_neg, nta, csa, ntb, csb, hfn, gc0, gk0, gm0, gd0, gq0, hky, hkk, hg, gc1, gk1, lM, hM0', e2, e4, e5, e6, e11, e32, e33, e34, hjl]
    have hks2 : ∀ y, y.length = A.length → hasK En y → y ∈ x :: s := fun y h1 h2 => by simp [hks y h1 h2]
    have hre2 : ∀ y ∈ x :: s, y ∈ s ∨ ∃ C, Rn L A y C := fun y hy => by
      rcases List.mem_cons.1 hy with rfl | hy
      · exact .inr ⟨_, hr⟩
      · exact .inl hy
    have hch : ∀ i, i < B.length → canB L B i = true → hasK En (x.set i (x.getD i 0 + 1)) := fun i hi hc => by rw [moves_nil hMv hi] at hc; cases hc
    have hsub2 : ∀ y ∈ x :: s, y ∈ x :: s := fun y h => h
    have hmo2 : ∀ y, hasK En y → hasK En y := fun y h => h
    have hky9 : keysOK 5 En = true := hM.keys hs
    have gm9 := hst2.gm
    have gq9 := hst2.gq
    have gk9 := gk2
    try simp (disch := first | omega | (simp; done) | fail) [wrap64c, if_pos, if_neg, nta, csa, ntb, csb, hfn, gc0, gk0, gm0, gd0, gq0, hky, hkk, hg, gc1, gk1, lM, hM0', e2, e4, e5, e6, e11, e32, e33, e34, hjl, hky9, gm9, gq9, gk9]
    have hlA : ∀ {y : List Int}, y.length = A.length → keyC y = keyC x → y = x := fun {y} hy he => by
      have h1 : isKey 5 (keyC y) = true := keyC_ok (by omega)
      have h2 : isKey 5 (keyC x) = true := keyC_ok (by omega)
      exact (keyB_C (by omega) (by omega)).1 ((keyB_iff h1 h2).2 he)
    have hput : ∀ y v, hasK (mapPut En (keyC x) v) y ↔ keyC y = keyC x ∨ hasK En y := fun y v => hasK_put (n := A.length) (by omega) hlen.2 hM.lens
    refine done_ret rfl ⟨mapPut En (keyC x) (.int .i64 ((capN (wN L n B) : Nat) : Int)), (x :: s), (by rw [hcap]; rfl), ?_, ?_, ?_, hM.put hr hx, ?_, ?_, ?_, ?_, ?_, ?_⟩
    · exact (W2).put (o := q) (.inr rfl) (fun _ => rfl)
    · rw [hkey, hcap]; exact hst2.putq
    · exact D.stab _ _ _ P2 (by have := hst2.ord; omega) (by simp) fun o hl => by simp [show o ≠ q by omega]
    · intro y C i hy hk hi hc
      rw [hput] at hk ⊢
      right
      rcases hk with hk | hk
      · have := hlA hy.len.2 hk
        subst this
        have hBC := hr.same hy hs
        subst hBC
        exact hch i hi hc
      · exact hC y C i hy hk hi hc
    · exact fun y hy => (hput _ _).2 (.inr (hmo2 y hy))
    · exact (hput _ _).2 (.inl rfl)
    · intro y hy hk
      rcases (hput _ _).1 hk with hk | hk
      · rw [hlA hy hk]; exact hsub2 x (by simp)
      · exact hks2 y hy hk
    · exact fun y hy => hsub2 y (by simp [hy])
    · exact hre2
  · have hM0' : ((M.length : Int) == 0) = false := by simp [hM0]
    have hne : movesL L B ≠ [] := fun e => hM0 (by rw [hMe, e]; rfl)
    obtain ⟨pd, rfl⟩ : ∃ p, n = p + 1 := by
      cases n with
      | zero =>
        have := (f.end hs hr (by omega)).2
        rw [this] at hne
        exact absurd f.last hne
      | succ p => exact ⟨p, rfl⟩
    have hwn : wN L (pd + 1) B = (M.map fun k => wN L pd (moveA L B k.toNat)).sum := by rw [wN, if_neg hne, hMe]
    have hre2 : ∀ y ∈ x :: s, y ∈ s ∨ ∃ C, Rn L A y C := fun y hy => by
      rcases List.mem_cons.1 hy with rfl | hy
      · exact .inr ⟨_, hr⟩
      · exact .inl hy
    try simp (disch := first | omega | (simp; done) | fail) [wrap64c, if_pos, if_neg, nta, csa, ntb, csb, hfn, gc0, gk0, gm0, gd0, gq0, hky, hkk, hg, gc1, gk1, lM, hM0']
    refine WD_loopC [2, 4, 5, 6, 32, 33] (fun m tm h' => ∃ j E1 s1, m = M.length - j ∧ tm 11 = .int .i64 ((capN ((M.take j).map fun k => wN L pd (moveA L B k.toNat)).sum : Nat) : Int) ∧ tm 34 = .int .i64 (j : Int) ∧ (j ≤ M.length) ∧ (Wr (fun o => S o ∨ o = q) h2 h') ∧ (ReSt base od q om of_ fid dc E1 h') ∧ (P s1 h') ∧ (MemC L A R E1) ∧ (ClosedK L A E1) ∧ (∀ y, hasK En y → hasK E1 y) ∧ (∀ y, y.length = A.length → hasK E1 y → y ∈ s1) ∧ (∀ y ∈ x :: s, y ∈ s1) ∧ (∀ y ∈ s1, y ∈ s ∨ ∃ C, Rn L A y C) ∧ (∀ k (hk : k < M.length), k < j → hasK E1 (x.set M[k].toNat (x.getD M[k].toNat 0 + 1)))) _ ⟨0, En, (x :: s), rfl, (by simp [capN]), (by simp (disch := first | omega | (simp; done) | fail) [wrap64c, if_pos, if_neg, nta, csa, ntb, csb, hfn, gc0, gk0, gm0, gd0, gq0, hky, hkk, hg, gc1, gk1, lM, hM0']), (by first | omega | assumption | (simp (disch := first | omega | (simp; done) | fail) [wrap64c, if_pos, if_neg, nta, csa, ntb, csb, hfn, gc0, gk0, gm0, gd0, gq0, hky, hkk, hg, gc1, gk1, lM, hM0'] <;> omega)), (Wr.refl _ _), hst2, P2, hM, hC, (fun y h => h), (fun y h1 h2 => by simp [hks y h1 h2]), (fun y h => h), hre2, (fun k _ h0 => by omega)⟩ ?_
    rintro m tm h' hFr ⟨j, E1, s1, rfl, e11, e34, hj, hW, hT, hPP, hMM, hCC, hmo, hk1, hub, hre, hch⟩
    simp only [FrameL] at hFr
    obtain ⟨f2_1, f4_1, f5_1, f6_1, f32_1, f33_1, -⟩ := hFr
    try simp (disch := first | omega | (simp; done) | fail) [wrap64c, if_pos, if_neg, nta, csa, ntb, csb, hfn, gc0, gk0, gm0, gd0, gq0, hky, hkk, hg, gc1, gk1, lM, hM0'] at f2_1 f4_1 f5_1 f6_1 f32_1 f33_1
    have e2 := f2_1
    have e4 := f4_1
    have e5 := f5_1
    have e6 := f6_1
    have e32 := f32_1
    have e33 := f33_1
    rename Hp => hq
    have n3 := hW.upd.1
    have keep3 : ∀ o, base ≤ o → o < h2.next → o ≠ q → hq.get o = h2.get o := fun o hb hl hne => hW.upd.2 o hl fun e => by
      rcases e with e | e
      · have := D.low o e; omega
      · exact hne e
    have gc3 : hq.get h.next = .cells [av, bv] true true 1 := by rw [keep3 _ (by omega) (by omega) (by omega)]; exact gc2
    have gk3 : hq.get (h.next + 1) = .cells [.int .i64 a1, .int .i64 a2, .int .i64 a3, .int .i64 a4, .int .i64 a5] true true 1 := by rw [keep3 _ (by omega) (by omega) (by omega)]; exact gk2
    have W3 := W2.trans hW
    have hu3 := hu2.same (hW.upd.same fun o ho e => by
      have := ho.1
      rcases e with e | e
      · have := D.low o e; omega
      · omega)
    by_cases hlt : j < M.length
    · obtain ⟨i, hi1, hiB, hiC, hxi, hr2, hs2, hR2⟩ := f.next hs hr (show M[j] ∈ movesL L B by rw [← hMe]; exact List.getElem_mem hlt)
      have hi1' := hi1
      have hL3 := hL.same (W3.upd.same fun o ho e => by rcases e with e | e; exact ho.2 e; have := ho.1; omega)
      have hB3 := hB.same (W3.upd.same fun o ho e => by
        rcases ho with ho | ho <;> rcases e with e | e
        · exact ho.2 e
        · have := ho.1; omega
        · have := D.low o e; omega
        · omega)
      obtain ⟨o_y, i_y, c_y, cs_y, own_y, ex_y, es_y, q_y, b_y, g_y, l_y, r_y⟩ := (hu3.ints).open ((by omega))
      have z_y : ∀ h2 : i_y < cs_y.length, cs_y[i_y] = _ := fun h2 => r_y 0 ((by omega)) h2
      try simp (disch := first | omega | (simp; done) | fail) [wrap64c, if_pos, if_neg, nta, csa, ntb, csb, hfn, gc0, gk0, gm0, gd0, gq0, hky, hkk, hg, gc1, gk1, lM, hM0', e2, e4, e5, e6, e11, e32, e33, e34, gc3, gk3, hlt, hi1', q_y, g_y, l_y, r_y, z_y]
      refine WD_drawC 7 rfl (by kernel_rfl) ?_
      try simp (disch := first | omega | (simp; done) | fail) [wrap64c, if_pos, if_neg, nta, csa, ntb, csb, hfn, gc0, gk0, gm0, gd0, gq0, hky, hkk, hg, gc1, gk1, lM, hM0', e2, e4, e5, e6, e11, e32, e33, e34, gc3, gk3, hlt, hi1', q_y, g_y, l_y, r_y, z_y]
      obtain ⟨u4, h4, hc4, ha4, hu4⟩ := clone_ok hq bv B hB3.ints (by omega)
      refine callP_c (by simp) (by simp) ?ha (hc4) ?hadd ?_
      (case ha => simp (disch := first | omega | (simp; done) | fail) [wrap64c, if_pos, if_neg, nta, csa, ntb, csb, hfn, gc0, gk0, gm0, gd0, gq0, hky, hkk, hg, gc1, gk1, lM, hM0', e2, e4, e5, e6, e11, e32, e33, e34, gc3, gk3, hlt, hi1', q_y, g_y, l_y, r_y, z_y])
      (case hadd => first | assumption | exact adds_self _ | (simp; done))
      have n4 := ha4.1.1
      have nt4 := hu4.nt
      have cs4 := hu4.cs
      try simp (disch := first | omega | (simp; done) | fail) [wrap64c, if_pos, if_neg, nta, csa, ntb, csb, hfn, gc0, gk0, gm0, gd0, gq0, hky, hkk, hg, gc1, gk1, lM, hM0', e2, e4, e5, e6, e11, e32, e33, e34, gc3, gk3, hlt, hi1', q_y, g_y, l_y, r_y, z_y, nt4, cs4, putCells]
      first | refine WY_heap fun h5 q_h5 => ?_ | refine callG_heap fun h5 q_h5 => ?_ | refine callP_heap fun h5 q_h5 => ?_ | refine callS_heap fun h5 q_h5 => ?_ | refine RY_heap fun h5 q_h5 => ?_ | refine PY_heap fun h5 q_h5 => ?_ | refine SY_heap fun h5 q_h5 => ?_ | refine doneY_heap fun h5 q_h5 => ?_ | refine loopK_heap fun h5 q_h5 => ?_ | refine thenY_heap fun h5 q_h5 => ?_ | refine thenM_heap fun h5 q_h5 => ?_
      have k5 : Adds h4 h5 := by rw [q_h5]; exact (by first | exact aK | exact kK)
      have n5 : h5.next = h4.next + 1 := by simp [q_h5]
      have g5 : h5.get h4.next = .cells [av, u4] true true 1 := by simp [q_h5]
      have hu5 := hu4.keep k5.1
      obtain ⟨_, h6, hc6, rfl, W6, hu6⟩ := imMove_ok (Btw hq.next h4.next) (fun o => o < base ∧ ¬ S o) h5 av u4 L B i ((hL3.keep ha4.1).keep k5.1) hu5 (fun o ho e => by have := ho.1; have := e.1; omega) hsB hoB.small hiB
      refine callG_c (by simp) (by simp) ?ha (hc6) ?_
      (case ha => simp (disch := first | omega | (simp; done) | fail) [wrap64c, if_pos, if_neg, nta, csa, ntb, csb, hfn, gc0, gk0, gm0, gd0, gq0, hky, hkk, hg, gc1, gk1, lM, hM0', e2, e4, e5, e6, e11, e32, e33, e34, gc3, gk3, hlt, hi1', q_y, g_y, l_y, r_y, z_y, nt4, cs4, g5])
      have n6 := W6.upd.1
      have keep6 : ∀ o, o < hq.next → h6.get o = hq.get o := fun o hl => by rw [W6.upd.2 o (by omega) (fun e => by have := e.1; omega), k5.1.2 o (by omega), ha4.1.2 o hl]
      have g6 : h6.get h4.next = .cells [av, u4] true true 1 := by rw [W6.upd.2 _ (by omega) (fun e => by have := e.2; omega)]; exact g5
      have gc6 : h6.get h.next = .cells [av, bv] true true 1 := by rw [keep6 _ (by omega)]; exact gc3
      have gk6 : h6.get (h.next + 1) = .cells [.int .i64 a1, .int .i64 a2, .int .i64 a3, .int .i64 a4, .int .i64 a5] true true 1 := by rw [keep6 _ (by omega)]; exact gk3
      have hpl := pad_len hx5
      have hip : i < (pad x).length := by omega
      have hpi := pad_at hxi hip
      have hxb := hr.small (by have := f.le hs hr; omega) _ (List.getElem_mem hxi)
      have hi5 : i < 5 := by omega
      have hl5 : ([Value.int .i64 a1, .int .i64 a2, .int .i64 a3, .int .i64 a4, .int .i64 a5][i]'(by simp; omega)) = .int .i64 x[i] := by
        have e : ([Value.int .i64 a1, .int .i64 a2, .int .i64 a3, .int .i64 a4, .int .i64 a5][i]?) = ((pad x).map (.int .i64))[i]? := by rw [hpd]; rfl
        rw [List.getElem?_eq_getElem (by simp; omega), List.getElem?_map, List.getElem?_eq_getElem hip, hpi] at e
        exact Option.some.inj e
      have hl5' := hl5
      have hp5 : putCells [Value.int .i64 0, .int .i64 0, .int .i64 0, .int .i64 0, .int .i64 0] 0 [.int .i64 a1, .int .i64 a2, .int .i64 a3, .int .i64 a4, .int .i64 a5] = [.int .i64 a1, .int .i64 a2, .int .i64 a3, .int .i64 a4, .int .i64 a5] := rfl
      have gf6 : h6.get of_ = .cells [.func (.func 99) #[] #[.pointer (some ⟨om, 0, none⟩), .pointer (some ⟨od, 0, none⟩), .pointer (some ⟨of_, 0, none⟩)]] true true 1 := by rw [keep6 _ (by omega)]; exact hT.gf
      obtain ⟨x', hx'⟩ : ∃ y, y = x.set i (x[i] + 1) := ⟨_, rfl⟩
      rw [← hx'] at hr2 hs2
      have hx'5 : x'.length ≤ 5 := by rw [hx']; simpa using hx5
      obtain ⟨b1, b2, b3, b4, b5, hpd'⟩ := pad_five hx'5
      have hkey' := keyC_five hpd'
      have hpc : putCells [Value.int .i64 a1, .int .i64 a2, .int .i64 a3, .int .i64 a4, .int .i64 a5] i [.int .i64 (x[i] + 1)] = [.int .i64 b1, .int .i64 b2, .int .i64 b3, .int .i64 b4, .int .i64 b5] := by
        rw [putCells_one (by simp; omega)]
        have e1 : [Value.int .i64 a1, .int .i64 a2, .int .i64 a3, .int .i64 a4, .int .i64 a5] = (pad x).map (.int .i64) := by rw [hpd]; rfl
        have e2 : [Value.int .i64 b1, .int .i64 b2, .int .i64 b3, .int .i64 b4, .int .i64 b5] = (pad x').map (.int .i64) := by rw [hpd']; rfl
        rw [e1, e2, hx', pad_set hxi, List.map_set]
      have hpc' := hpc
      obtain ⟨c1, hc1e⟩ : ∃ c, c = capN ((M.take j).map fun k => wN L pd (moveA L B k.toNat)).sum := ⟨_, rfl⟩
      obtain ⟨c2, hc2e⟩ : ∃ c, c = capN (wN L pd (moveA L B i)) := ⟨_, rfl⟩
      have hcl := capN_le ((M.take j).map fun k => wN L pd (moveA L B k.toNat)).sum
      have hcr := capN_le (wN L pd (moveA L B i))
      rw [← hc1e] at hcl e11
      rw [← hc2e] at hcr
      have hif : (if (1000000001 : Int) < (c1 : Int) + (c2 : Int) then 1000000001 else (c1 : Int) + (c2 : Int)) = ((capN (c1 + c2) : Nat) : Int) := by unfold capN; split <;> omega
      have hif' := hif
      try simp (disch := first | omega | (simp; done) | fail) [wrap64c, if_pos, if_neg, nta, csa, ntb, csb, hfn, gc0, gk0, gm0, gd0, gq0, hky, hkk, hg, gc1, gk1, lM, hM0', e2, e4, e5, e6, e11, e32, e33, e34, gc3, gk3, hlt, hi1', q_y, g_y, l_y, r_y, z_y, nt4, cs4, g5, g6, gc6, gk6, hi5, hl5', hp5, gf6, hpc', hif']
      first | refine WY_heap fun h7 q_h7 => ?_ | refine callG_heap fun h7 q_h7 => ?_ | refine callP_heap fun h7 q_h7 => ?_ | refine callS_heap fun h7 q_h7 => ?_ | refine RY_heap fun h7 q_h7 => ?_ | refine PY_heap fun h7 q_h7 => ?_ | refine SY_heap fun h7 q_h7 => ?_ | refine doneY_heap fun h7 q_h7 => ?_ | refine loopK_heap fun h7 q_h7 => ?_ | refine thenY_heap fun h7 q_h7 => ?_ | refine thenM_heap fun h7 q_h7 => ?_
      have k7 : Adds h6 h7 := by rw [q_h7]; exact (by first | exact aK | exact kK)
      have n7 : h7.next = h6.next + 1 := by simp [q_h7]
      have g7 : h7.get h6.next = .cells [.int .i64 b1, .int .i64 b2, .int .i64 b3, .int .i64 b4, .int .i64 b5] true true 1 := by rw [q_h7]; simp
      have hst7 : ReSt base od q om of_ fid dc E1 h7 := hT.keep (by omega) fun o hb hl => by rw [k7.1.2 o (by omega), keep6 o hl]
      have gf7 := hst7.gf
      have gc7 : h7.get h.next = .cells [av, bv] true true 1 := by rw [k7.1.2 _ (by omega)]; exact gc6
      have gk7 : h7.get (h.next + 1) = .cells [.int .i64 a1, .int .i64 a2, .int .i64 a3, .int .i64 a4, .int .i64 a5] true true 1 := by rw [k7.1.2 _ (by omega)]; exact gk6
      have gs7 : h7.get h4.next = .cells [av, u4] true true 1 := by rw [k7.1.2 _ (by omega)]; exact g6
      have hP7 := D.stab _ hq h7 hPP (by omega) (by omega) fun o hl => by rw [k7.1.2 o (by omega), keep6 o (by omega)]
      have W7 : Wr (fun o => S o ∨ o = q) hq h7 := (wr_trans3 ((Wr.of_adds ha4).trans (.of_adds k5)) W6 (fun o hl e => by have := e.1; omega)).trans (.of_adds k7)
      have hL7 : IRowsF (fun o => o < base ∧ ¬ S o) h7 av L := hL3.same ⟨by omega, fun o ho hl => by rw [k7.1.2 o (by omega), keep6 o hl]⟩
      have hB7 : IntsF (fun o => (o < base ∧ ¬ S o) ∨ of_ < o) h7 u4 (moveA L B i) := (hu6.keep k7.1).read.sub fun o ho => .inr (by have := ho.1; omega)
      obtain ⟨_, h8, hc8, E8, s8, rfl, W8, hT8, hP8, hM8, hC8, mo8, has8, ks8, ub8, re8⟩ := ih pd (by omega) h7 x' (moveA L B i) u4 E1 s1 hst7 hP7 hr2 (by rw [hs2]; omega) hL7 hB7 hMM hCC hk1
      rw [hkey', ← hc2e] at hc8
      have n8 := W8.upd.1
      try simp (disch := first | omega | (simp; done) | fail) [wrap64c, if_pos, if_neg, nta, csa, ntb, csb, hfn, gc0, gk0, gm0, gd0, gq0, hky, hkk, hg, gc1, gk1, lM, hM0', e2, e4, e5, e6, e11, e32, e33, e34, gc3, gk3, hlt, hi1', q_y, g_y, l_y, r_y, z_y, nt4, cs4, g5, g6, gc6, gk6, hi5, hl5', hp5, gf6, hpc', hif', g7, gf7, gs7]
      refine callG_f (fst := #[]) (cap := #[.pointer (some ⟨om, 0, none⟩), .pointer (some ⟨od, 0, none⟩), .pointer (some ⟨of_, 0, none⟩)]) (by simp) (by simp) ?hf ?hk ?ha (hc8) ?_
      (case hf => simp (disch := first | omega | (simp; done) | fail) [wrap64c, if_pos, if_neg, nta, csa, ntb, csb, hfn, gc0, gk0, gm0, gd0, gq0, hky, hkk, hg, gc1, gk1, lM, hM0', e2, e4, e5, e6, e11, e32, e33, e34, gc3, gk3, hlt, hi1', q_y, g_y, l_y, r_y, z_y, nt4, cs4, g5, g6, gc6, gk6, hi5, hl5', hp5, gf6, hpc', hif', g7, gf7, gs7]; try rfl)
      (case hk => simp (disch := first | omega | (simp; done) | fail) [wrap64c, if_pos, if_neg, nta, csa, ntb, csb, hfn, gc0, gk0, gm0, gd0, gq0, hky, hkk, hg, gc1, gk1, lM, hM0', e2, e4, e5, e6, e11, e32, e33, e34, gc3, gk3, hlt, hi1', q_y, g_y, l_y, r_y, z_y, nt4, cs4, g5, g6, gc6, gk6, hi5, hl5', hp5, gf6, hpc', hif', g7, gf7, gs7])
      (case ha => simp (disch := first | omega | (simp; done) | fail) [wrap64c, if_pos, if_neg, nta, csa, ntb, csb, hfn, gc0, gk0, gm0, gd0, gq0, hky, hkk, hg, gc1, gk1, lM, hM0', e2, e4, e5, e6, e11, e32, e33, e34, gc3, gk3, hlt, hi1', q_y, g_y, l_y, r_y, z_y, nt4, cs4, g5, g6, gc6, gk6, hi5, hl5', hp5, gf6, hpc', hif', g7, gf7, gs7])
      try simp (disch := first | omega | (simp; done) | fail) [wrap64c, if_pos, if_neg, nta, csa, ntb, csb, hfn, gc0, gk0, gm0, gd0, gq0, hky, hkk, hg, gc1, gk1, lM, hM0', e2, e4, e5, e6, e11, e32, e33, e34, gc3, gk3, hlt, hi1', q_y, g_y, l_y, r_y, z_y, nt4, cs4, g5, g6, gc6, gk6, hi5, hl5', hp5, gf6, hpc', hif', g7, gf7, gs7]
      have htk : ((M.take (j + 1)).map fun k => wN L pd (moveA L B k.toNat)).sum = ((M.take j).map fun k => wN L pd (moveA L B k.toNat)).sum + wN L pd (moveA L B i) := by
        rw [List.take_succ_eq_append_getElem hlt, List.map_append, List.sum_append, hi1]; simp
      have hc12 : capN (c1 + c2) = capN (((M.take j).map fun k => wN L pd (moveA L B k.toNat)).sum + wN L pd (moveA L B i)) := by rw [hc1e, hc2e, capN_add]
      refine loopK_next _ ?hm ?hf ⟨j + 1, E8, s8, rfl, (by rw [htk, ← hc12]; simp), (by simp (disch := first | omega | (simp; done) | fail) [wrap64c, if_pos, if_neg, nta, csa, ntb, csb, hfn, gc0, gk0, gm0, gd0, gq0, hky, hkk, hg, gc1, gk1, lM, hM0', e2, e4, e5, e6, e11, e32, e33, e34, gc3, gk3, hlt, hi1', q_y, g_y, l_y, r_y, z_y, nt4, cs4, g5, g6, gc6, gk6, hi5, hl5', hp5, gf6, hpc', hif', g7, gf7, gs7] <;> omega), (by first | omega | assumption | (simp (disch := first | omega | (simp; done) | fail) [wrap64c, if_pos, if_neg, nta, csa, ntb, csb, hfn, gc0, gk0, gm0, gd0, gq0, hky, hkk, hg, gc1, gk1, lM, hM0', e2, e4, e5, e6, e11, e32, e33, e34, gc3, gk3, hlt, hi1', q_y, g_y, l_y, r_y, z_y, nt4, cs4, g5, g6, gc6, gk6, hi5, hl5', hp5, gf6, hpc', hif', g7, gf7, gs7] <;> omega)), (hW.trans (W7.trans W8)), hT8, hP8, hM8, hC8, (fun y hy => mo8 y (hmo y hy)), ks8, (fun y hy => ub8 y (hub y hy)), ?c_hre, ?c_hch⟩
      (case hm => first | omega | (simp; omega))
      (case hf => simp [FrameL, nta, csa, ntb, csb, hfn, gc0, gk0, gm0, gd0, gq0, hky, hkk, hg, gc1, gk1, lM, hM0', e2, e4, e5, e6, e11, e32, e33, e34, gc3, gk3, hlt, hi1', q_y, g_y, l_y, r_y, z_y, nt4, cs4, g5, g6, gc6, gk6, hi5, hl5', hp5, gf6, hpc', hif', g7, gf7, gs7, f2_1, f4_1, f5_1, f6_1, f32_1, f33_1])
      case c_hre =>
        exact (fun y hy => by
          rcases re8 y hy with h1 | h1
          · exact hre y h1
          · exact .inr h1)
      case c_hch =>
        exact (fun k hk hkj => by
          by_cases ek : k = j
          · subst ek
            rw [hi1, Int.toNat_natCast, getD_at hxi, ← hx']; exact has8
          · exact mo8 _ (hch k hk (by omega)))
    · have hje : j = M.length := by omega
      rw [hje, List.take_length, ← hwn] at e11
      have hcap : ((capN (wN L (pd + 1) B) : Nat) : Int) = ((capN (wN L (pd + 1) B) : Nat) : Int) := rfl
      have hch2 : ∀ i, i < B.length → canB L B i = true → hasK E1 (x.set i (x.getD i 0 + 1)) := fun i hi hc => by
        have hm : (i : Int) ∈ M := by rw [hMe]; exact List.mem_map.2 ⟨i, List.mem_filter.2 ⟨by simpa using hi, hc⟩, rfl⟩
        obtain ⟨k, hk, e⟩ := List.getElem_of_mem hm
        have := hch k hk (by omega)
        rw [e] at this
        simpa using this
      try simp (disch := first | omega | (simp; done) | fail) [wrap64c, if_pos, if_neg, nta, csa, ntb, csb, hfn, gc0, gk0, gm0, gd0, gq0, hky, hkk, hg, gc1, gk1, lM, hM0', e2, e4, e5, e6, e11, e32, e33, e34, gc3, gk3, hlt]
      have hky9 : keysOK 5 E1 = true := hMM.keys hs
      have gm9 := hT.gm
      have gq9 := hT.gq
      have gk9 := gk3
      try simp (disch := first | omega | (simp; done) | fail) [wrap64c, if_pos, if_neg, nta, csa, ntb, csb, hfn, gc0, gk0, gm0, gd0, gq0, hky, hkk, hg, gc1, gk1, lM, hM0', e2, e4, e5, e6, e11, e32, e33, e34, gc3, gk3, hlt, hky9, gm9, gq9, gk9]
      have hlA : ∀ {y : List Int}, y.length = A.length → keyC y = keyC x → y = x := fun {y} hy he => by
        have h1 : isKey 5 (keyC y) = true := keyC_ok (by omega)
        have h2 : isKey 5 (keyC x) = true := keyC_ok (by omega)
        exact (keyB_C (by omega) (by omega)).1 ((keyB_iff h1 h2).2 he)
      have hput : ∀ y v, hasK (mapPut E1 (keyC x) v) y ↔ keyC y = keyC x ∨ hasK E1 y := fun y v => hasK_put (n := A.length) (by omega) hlen.2 hMM.lens
      refine done_ret rfl ⟨mapPut E1 (keyC x) (.int .i64 ((capN (wN L (pd + 1) B) : Nat) : Int)), s1, rfl, ?_, ?_, ?_, hMM.put hr hx, ?_, ?_, ?_, ?_, ?_, ?_⟩
      · exact (W3).put (o := q) (.inr rfl) (fun _ => rfl)
      · rw [hkey, hcap]; exact hT.putq
      · exact D.stab _ _ _ hPP (by have := hT.ord; omega) (by simp) fun o hl => by simp [show o ≠ q by omega]
      · intro y C i hy hk hi hc
        rw [hput] at hk ⊢
        right
        rcases hk with hk | hk
        · have := hlA hy.len.2 hk
          subst this
          have hBC := hr.same hy hs
          subst hBC
          exact hch2 i hi hc
        · exact hCC y C i hy hk hi hc
      · exact fun y hy => (hput _ _).2 (.inr (hmo y hy))
      · exact (hput _ _).2 (.inl rfl)
      · intro y hy hk
        rcases (hput _ _).1 hk with hk | hk
        · rw [hlA hy hk]; exact hub x (by simp)
        · exact hk1 y hy hk
      · exact fun y hy => hub y (by simp [hy])
      · exact hre
end Go.Proofs.Ytnnjehonbolliaa
namespace Go.Proofs.Ytnnjehonbolliaa
set_option linter.unusedSimpArgs false
set_option linter.unusedVariables false
set_option maxHeartbeats 4000000
open Go Go.Eng
attribute [local irreducible] WD RunD PreD Runs CallOK
theorem reached_ok {L : List (List Int)} {A X E : List Int} {R : Nat} (f : FinR L A X E R) (hs : Shape L A.length) (ho : Ok L A) (hR60 : R ≤ 60) {P : List (List Int) → Hp → Prop} {base : Nat} {S : Nat → Prop} {fid : Nat} {dc : Array Value} (D : DoerC L A P base S fid dc) (h : Hp) (a b : Value) (hP : P [] h) (hb : base ≤ h.next)
    (hL : IRowsF (fun o => o < base ∧ ¬ S o) h a L) (hB : IntsF (fun o => o < base ∧ ¬ S o) h b A) :
    ∃ u h', CallOK Try.prog 77 #[.agg #[a, b], .func (.func fid) #[] dc] h u h' ∧ ∃ s', u = .int .i64 ((capN (wN L R A) : Nat) : Int) ∧ Wr S h h' ∧ P s' h' ∧ (∀ x B, Rn L A x B → x ∈ s') ∧ ∀ y ∈ s', ∃ C, Rn L A y C := by
  have h5 := hs.le
  have nta := hL.sl.nt
  have csa := hL.sl.cs
  have ntb := hB.ints.nt
  have csb := hB.ints.cs
  have hfn := D.fn
  have hpd : pad (List.replicate A.length 0) = [0, 0, 0, 0, 0] := by
    unfold pad
    rw [List.length_replicate, List.replicate_append_replicate, show A.length + (5 - A.length) = 5 by omega]; rfl
  have hkey := keyC_five hpd
  refine callY_L (args := [.agg #[a, b], .func (.func fid) #[] dc]) 13 _ [.tmp 4] Try.func77 rfl rfl rfl ?_
  try simp (disch := first | omega | (simp; done) | fail) [wrap64c, if_pos, if_neg, nta, csa, ntb, csb, hfn, putCells]
  first | refine WY_heap fun h1 q_h1 => ?_ | refine callG_heap fun h1 q_h1 => ?_ | refine callP_heap fun h1 q_h1 => ?_ | refine callS_heap fun h1 q_h1 => ?_ | refine RY_heap fun h1 q_h1 => ?_ | refine PY_heap fun h1 q_h1 => ?_ | refine SY_heap fun h1 q_h1 => ?_ | refine doneY_heap fun h1 q_h1 => ?_ | refine loopK_heap fun h1 q_h1 => ?_ | refine thenY_heap fun h1 q_h1 => ?_ | refine thenM_heap fun h1 q_h1 => ?_
  have k1 : Adds h h1 := by rw [q_h1]; exact (by first | exact aK | exact kK)
  have n1 : h1.next = h.next + 5 := by simp [q_h1]
  have hst : ReSt base (h.next + 1) (h.next + 2) (h.next + 1 + 2) (h.next + 2 + 2) fid dc [] h1 := ⟨by omega, by simp [q_h1], by simp [q_h1], by simp [q_h1], by simp [q_h1]⟩
  have hP1 := D.stab [] h h1 hP hb k1.1.1 fun o ho => k1.1.2 o (by omega)
  obtain ⟨_, h2, hc2, E2, s2, rfl, W2, hT2, hP2, hM2, hC2, _, has2, ks2, _, re2⟩ := from_ok f hs ho hR60 D (h.next + 1) (h.next + 2) (h.next + 1 + 2) (h.next + 2 + 2) a R h1 (List.replicate A.length 0) A b [] [] hst hP1 .zero (by simp) (hL.keep k1.1) ((hB.keep k1.1).sub fun o ho => .inl ho) (fun e he => by cases he) (fun x B i _ ⟨e, he, _⟩ => by cases he) (fun y _ ⟨e, he, _⟩ => by cases he)
  rw [hkey] at hc2
  refine callG_f (fst := #[]) (cap := #[.pointer (some ⟨h.next + 1 + 2, 0, none⟩), .pointer (some ⟨h.next + 1, 0, none⟩), .pointer (some ⟨h.next + 2 + 2, 0, none⟩)]) (by simp) (by simp) ?hf ?hk ?ha (hc2) ?_
  (case hf => simp (disch := first | omega | (simp; done) | fail) [wrap64c, if_pos, if_neg, nta, csa, ntb, csb, hfn]; try rfl)
  (case hk => simp (disch := first | omega | (simp; done) | fail) [wrap64c, if_pos, if_neg, nta, csa, ntb, csb, hfn])
  (case ha => simp (disch := first | omega | (simp; done) | fail) [wrap64c, if_pos, if_neg, nta, csa, ntb, csb, hfn])
  try simp (disch := first | omega | (simp; done) | fail) [wrap64c, if_pos, if_neg, nta, csa, ntb, csb, hfn]
  refine done_ret rfl ⟨s2, rfl, wr_trans3 (.of_adds k1) W2 (fun o hl e => ?_), hP2, fun x B hr => ks2 x hr.len.2 (hC2.all has2 hr), fun y hy => ?_⟩
  · rcases e with e | e
    · exact e
    · omega
  · rcases re2 y hy with h1 | h1
    · cases h1
    · exact h1
theorem runsNone_ok (h : Hp) (x : List Int) (h5 : x.length ≤ 5) : ∃ u h', CallOK Try.prog 84 #[keyC x] h u h' ∧ Adds h h' := by
  obtain ⟨a1, a2, a3, a4, a5, hpd⟩ := pad_five h5
  rw [keyC_five hpd]
  refine callY_L (args := [.agg #[.int .i64 a1, .int .i64 a2, .int .i64 a3, .int .i64 a4, .int .i64 a5]]) 2 _ [] Try.func84 rfl rfl rfl ?_
  try simp (disch := first | omega | (simp; done) | fail) [wrap64c, if_pos, if_neg]
  exact done_end rfl (by first | exact aK | exact kK)
theorem implRuns_ok (h : Hp) (v : Value) (L : List (List Int)) (A : List Int) (hv : Chips h v L A) :
    CallOK Try.prog 36 #[v] h (.tuple #[.int .i64 (runsN L A), .bool (runsB L A)]) h := by
  refine callY_P 21 _ [.tmp 2, .tmp 3] Try.func36 rfl rfl rfl (by first | rfl | simp) ?_
  have hv0 := hv
  obtain ⟨a, b, rfl, hL, hA⟩ := hv
  refine WD_first ?_
  try simp (disch := first | omega | (simp; done) | fail) [wrap64c, if_pos, if_neg]
  refine stopK_heap fun h0 q_h0 => ?_
  refine stopK_go ?_
  have g_h0 : h0.get h.next = .cells [a, b] true true 1 := by simp [q_h0]
  have k_h0 : Adds h h0 := by rw [q_h0]; exact (by first | exact aK | exact kK)
  have n_h0 : h.next < h0.next := by simp [q_h0]; try omega
  try simp (disch := first | omega | (simp; done) | fail) [wrap64c, if_pos, if_neg, g_h0]
  obtain ⟨v1, h1, hc1, ha1, u1, u2, rfl, hu1, hu2⟩ := imFull_ok h0 _ (.slice none 0 0) L A [] (hv0.keep k_h0.1) (Ints.nil _) (by simp)
  have hu2' := hu2
  obtain ⟨p, q, S1, S2, rfl, hp, hq, _, _, _⟩ := hu2'
  have ntp := hp.nt
  have csp := hp.cs
  have ntq := hq.nt
  have csq := hq.cs
  refine callG_c (by simp) (by simp) ?ha (hc1) ?_
  (case ha => simp (disch := first | omega | (simp; done) | fail) [wrap64c, if_pos, if_neg, g_h0, ntp, csp, ntq, csq])
  have n1 := ha1.1.1
  have K1 := k_h0.trans ha1
  have g1 : h1.get h.next = .cells [a, b] true true 1 := by rw [ha1.1.2 _ n_h0]; exact g_h0
  cases hf : fullR L A [] with
  | none =>
    have hf' := hf
    have hk : runsB L A = false := by simp [runsB, hf]
    try simp (disch := first | omega | (simp; done) | fail) [wrap64c, if_pos, if_neg, g_h0, ntp, csp, ntq, csq, g1, hf', putCells]
    refine done_ret rfl ⟨by simp [runsN, hk], ?_⟩
    have := K1.1; exact (by first | exact aK | exact kK)
  | some r =>
    obtain ⟨run, E⟩ := r
    have hf' := hf
    have f := fullR_fin (by simp) hf
    have hR : run.length ≤ 60 := (fullR_len (by simp) hf).1
    have c1 : goodB L A = true := by
      cases hg : goodB L A with
      | true => rfl
      | false => simp [fullR, hg] at hf
    have ho := (good_of c1).ok
    have h5 := ho.sh.le
    try simp (disch := first | omega | (simp; done) | fail) [wrap64c, if_pos, if_neg, g_h0, ntp, csp, ntq, csq, g1, hf', putCells]
    first | refine WY_heap fun h2 q_h2 => ?_ | refine callG_heap fun h2 q_h2 => ?_ | refine callP_heap fun h2 q_h2 => ?_ | refine callS_heap fun h2 q_h2 => ?_ | refine RY_heap fun h2 q_h2 => ?_ | refine PY_heap fun h2 q_h2 => ?_ | refine SY_heap fun h2 q_h2 => ?_ | refine doneY_heap fun h2 q_h2 => ?_ | refine loopK_heap fun h2 q_h2 => ?_ | refine thenY_heap fun h2 q_h2 => ?_ | refine thenM_heap fun h2 q_h2 => ?_
    have k2 : Adds h1 h2 := by rw [q_h2]; exact (by first | exact aK | exact kK)
    have K2 := K1.trans k2
    have D : DoerC L A (fun _ _ => True) h.next (fun _ => False) 84 #[] := {
      stab := fun _ _ _ _ _ _ _ => trivial
      run := fun s h3 x B _ _ hr => by
        obtain ⟨u, h4, hc, ha⟩ := runsNone_ok h3 x (by have := hr.len.2; omega)
        exact ⟨u, h4, by simpa using hc, .of_adds ha, trivial⟩
      low := fun _ e => e.elim
      fn := by simp }
    obtain ⟨_, h3, hc3, s3, rfl, W3, _, _, _⟩ := reached_ok f ho.sh ho hR D h2 a b trivial K2.1.1 ((hL.old.keep K2.1).sub fun o ho => ⟨ho, id⟩) ((hA.old.keep K2.1).sub fun o ho => ⟨ho, id⟩)
    obtain ⟨W, hW⟩ : ∃ W, W = wN L run.length A := ⟨_, rfl⟩
    rw [← hW] at hc3
    have K3 : Keeps h h3 := W3.upd.keeps K2.1 fun o e => e.elim
    refine callG_c (by simp) (by simp) ?ha (hc3) ?_
    (case ha => simp (disch := first | omega | (simp; done) | fail) [wrap64c, if_pos, if_neg, g_h0, ntp, csp, ntq, csq, g1, hf'])
    by_cases hc : W ≤ 1000000000
    · have hk : runsB L A = true := by simp [runsB, hf, fst?, ← hW, hc]
      have hcw : capN W = W := by unfold capN; omega
      have hgt : ¬ (1000000000 : Int) < (W : Int) := by omega
      try simp (disch := first | omega | (simp; done) | fail) [wrap64c, if_pos, if_neg, g_h0, ntp, csp, ntq, csq, g1, hf', hcw, hgt]
      exact done_ret rfl (by simp [runsN, hk, hf, fst?, ← hW, K3])
    · have hk : runsB L A = false := by simp [runsB, hf, fst?, ← hW, hc]
      have hcw : capN W = 1000000001 := by unfold capN; omega
      try simp (disch := first | omega | (simp; done) | fail) [wrap64c, if_pos, if_neg, g_h0, ntp, csp, ntq, csq, g1, hf', hcw]
      exact done_ret rfl (by simp [runsN, hk, K3])
end Go.Proofs.Ytnnjehonbolliaa
namespace Go.Proofs.Ytnnjehonbolliaa
set_option linter.unusedSimpArgs false
set_option linter.unusedVariables false
set_option maxHeartbeats 4000000
open Go Go.Eng
attribute [local irreducible] WD RunD PreD Runs CallOK
theorem srt_ext {a b : List Nat} (ha : a.Pairwise (· < ·)) (hb : b.Pairwise (· < ·)) (h : ∀ x, x ∈ a ↔ x ∈ b) : a = b := by
  have na : a.Nodup := ha.imp fun h e => by omega
  have nb : b.Nodup := hb.imp fun h e => by omega
  exact List.Perm.eq_of_pairwise (fun x y _ _ h1 h2 => by omega) ha hb ((List.perm_ext_iff_of_nodup na nb).2 h)
def putL (l : List Nat) (a : Nat) : List Nat := if a ∈ l then l else l.filter (fun x => decide (x < a)) ++ [a] ++ l.filter fun x => decide (a < x)
theorem putL_mem (l : List Nat) (a x : Nat) : x ∈ putL l a ↔ x = a ∨ x ∈ l := by
  unfold putL
  by_cases h : a ∈ l
  · rw [if_pos h]
    constructor
    · exact .inr
    · rintro (rfl | h1)
      · exact h
      · exact h1
  · rw [if_neg h]
    simp only [List.mem_append, List.mem_filter, List.mem_singleton, decide_eq_true_eq]
    constructor
    · rintro ((⟨h1, _⟩ | h1) | ⟨h1, _⟩)
      · exact .inr h1
      · exact .inl h1
      · exact .inr h1
    · rintro (rfl | h1)
      · exact .inl (.inr rfl)
      · have : x ≠ a := fun e => h (e ▸ h1)
        rcases Nat.lt_or_gt_of_ne this with h2 | h2
        · exact .inl (.inl ⟨h1, h2⟩)
        · exact .inr ⟨h1, h2⟩
theorem putL_srt {l : List Nat} (hl : l.Pairwise (· < ·)) (a : Nat) : (putL l a).Pairwise (· < ·) := by
  unfold putL
  by_cases h : a ∈ l
  · rw [if_pos h]; exact hl
  · rw [if_neg h, List.pairwise_append, List.pairwise_append]
    refine ⟨⟨List.Pairwise.filter _ hl, List.pairwise_singleton _ _, fun x hx y hy => ?_⟩, List.Pairwise.filter _ hl, fun x hx y hy => ?_⟩
    · simp at hx hy; omega
    · simp at hx hy; omega
def famK (M : Nat → Bool) (k : Nat) : List Nat := (List.range k).filter M
theorem famK_succ (M : Nat → Bool) (k : Nat) : famK M (k + 1) = if M k = true then famK M k ++ [k] else famK M k := by
  unfold famK
  rw [List.range_succ, List.filter_append]
  by_cases h : M k = true <;> simp [h]
theorem famK_len (M : Nat → Bool) (k : Nat) : (famK M k).length ≤ k := by
  unfold famK
  have := List.length_filter_le M (List.range k)
  simpa using this
theorem IntsA.putB {n : Nat} {h : Hp} {v : Value} {xs : List Int} (hs : IntsA n h v xs) {o : Nat} (ho : o < n) (x : AObj) : IntsA n (h.put o x) v xs := by
  rcases hs with ⟨a, b⟩ | ⟨p, ex, a, b, c, d⟩
  · exact .inl ⟨a, b⟩
  · exact .inr ⟨p, ex, a, b, c, by simp [Hp.put, show p ≠ o by omega]; exact d⟩
theorem famSpace_ok (h : Hp) (o n : Nat) (M : Nat → Bool) (own ex : Bool) (es : Nat) (ho : o < h.next) (hg : h.get o = .cells (famC M) own ex es) :
    ∃ v' h', CallOK Try.prog 79 #[.pointer (some ⟨o, 0, none⟩), .int .i64 (n : Int)] h v' h' ∧ Adds h h' ∧ SpaceO (Btw h.next h'.next) h' v' n (toN (famK M 128)) := by
  refine callY_L (args := [.pointer (some ⟨o, 0, none⟩), .int .i64 (n : Int)]) 26 _ [.cell 4 48] Try.func79 rfl rfl rfl ?_
  try simp (disch := first | omega | (simp; done) | fail) [wrap64c, if_pos, if_neg, opAnd, opOr, opXor, opDiff, opShr, opBit, putCells]
  first | refine WY_heap fun h0 q_h0 => ?_ | refine callG_heap fun h0 q_h0 => ?_ | refine callP_heap fun h0 q_h0 => ?_ | refine callS_heap fun h0 q_h0 => ?_ | refine RY_heap fun h0 q_h0 => ?_ | refine PY_heap fun h0 q_h0 => ?_ | refine SY_heap fun h0 q_h0 => ?_ | refine doneY_heap fun h0 q_h0 => ?_ | refine loopK_heap fun h0 q_h0 => ?_ | refine thenY_heap fun h0 q_h0 => ?_ | refine thenM_heap fun h0 q_h0 => ?_
  have k0 : Adds h h0 := by rw [q_h0]; exact (by first | exact aK | exact kK)
  have n0 : h0.next = h.next + 2 := by simp [q_h0]
  have g1 : h0.get h.next = .cells [.int .i64 0, .slice none 0 0] true true 1 := by simp [q_h0]
  have g2 : h0.get (h.next + 1) = .cells [.int .i64 (n : Int), .slice none 0 0] true true 1 := by simp [q_h0]
  have hf := famC_getD M
  try simp (disch := first | omega | (simp; done) | fail) [wrap64c, if_pos, if_neg, opAnd, opOr, opXor, opDiff, opShr, opBit, hf]
  refine WD_loopC [4, 5, 10] (fun m tm h' => ∃ k u, m = 128 - k ∧ tm 11 = .int .i64 (k : Int) ∧ (k ≤ 128) ∧ (Adds h h') ∧ (h0.next ≤ h'.next) ∧ (h'.get h.next = .cells [.int .i64 0, .slice none 0 0] true true 1) ∧ (h'.get (h.next + 1) = .cells [.int .i64 (n : Int), u] true true 1) ∧ (IntsA h0.next h' u (toN (famK M k)))) _ ⟨0, .slice none 0 0, rfl, (by simp (disch := first | omega | (simp; done) | fail) [wrap64c, if_pos, if_neg, opAnd, opOr, opXor, opDiff, opShr, opBit, hf]), (by first | omega | assumption | (simp (disch := first | omega | (simp; done) | fail) [wrap64c, if_pos, if_neg, opAnd, opOr, opXor, opDiff, opShr, opBit, hf] <;> omega)), k0, (Nat.le_refl _), g1, g2, (by simp [famK, toN]; exact IntsA.nil _ _)⟩ ?_
  rintro m tm h' hFr ⟨k, u, rfl, e11, hk, ha, ha0, hg1, hg2, hu⟩
  simp only [FrameL] at hFr
  obtain ⟨f4_0, f5_0, f10_0, -⟩ := hFr
  try simp (disch := first | omega | (simp; done) | fail) [wrap64c, if_pos, if_neg, opAnd, opOr, opXor, opDiff, opShr, opBit, hf] at f4_0 f5_0 f10_0
  have e4 := f4_0
  have e5 := f5_0
  have e10 := f10_0
  have hgo : h'.get o = .cells (famC M) own ex es := by rw [ha.1.2 o ho]; exact hg
  by_cases hlt : k < 128
  · have hs := famK_succ M k
    have hle := famK_len M k
    try simp (disch := first | omega | (simp; done) | fail) [wrap64c, if_pos, if_neg, opAnd, opOr, opXor, opDiff, opShr, opBit, hf, e4, e5, e10, e11, hg1, hg2, hgo, hlt]
    refine WD_drawC 5 rfl (by kernel_rfl) ?_
    try simp (disch := first | omega | (simp; done) | fail) [wrap64c, if_pos, if_neg, opAnd, opOr, opXor, opDiff, opShr, opBit, hf, e4, e5, e10, e11, hg1, hg2, hgo, hlt]
    cases hc : M k
    · rw [if_neg (by simp [hc])] at hs
      try simp (disch := first | omega | (simp; done) | fail) [wrap64c, if_pos, if_neg, opAnd, opOr, opXor, opDiff, opShr, opBit, hf, e4, e5, e10, e11, hg1, hg2, hgo, hlt, hc]
      refine loopK_next _ ?hm ?hf ⟨k + 1, u, rfl, (by simp (disch := first | omega | (simp; done) | fail) [wrap64c, if_pos, if_neg, opAnd, opOr, opXor, opDiff, opShr, opBit, hf, e4, e5, e10, e11, hg1, hg2, hgo, hlt, hc] <;> omega), (by first | omega | assumption | (simp (disch := first | omega | (simp; done) | fail) [wrap64c, if_pos, if_neg, opAnd, opOr, opXor, opDiff, opShr, opBit, hf, e4, e5, e10, e11, hg1, hg2, hgo, hlt, hc] <;> omega)), (by first | omega | assumption | (simp (disch := first | omega | (simp; done) | fail) [wrap64c, if_pos, if_neg, opAnd, opOr, opXor, opDiff, opShr, opBit, hf, e4, e5, e10, e11, hg1, hg2, hgo, hlt, hc] <;> omega)), (by first | omega | assumption | (simp (disch := first | omega | (simp; done) | fail) [wrap64c, if_pos, if_neg, opAnd, opOr, opXor, opDiff, opShr, opBit, hf, e4, e5, e10, e11, hg1, hg2, hgo, hlt, hc] <;> omega)), (by first | omega | assumption | (simp (disch := first | omega | (simp; done) | fail) [wrap64c, if_pos, if_neg, opAnd, opOr, opXor, opDiff, opShr, opBit, hf, e4, e5, e10, e11, hg1, hg2, hgo, hlt, hc] <;> omega)), (by first | omega | assumption | (simp (disch := first | omega | (simp; done) | fail) [wrap64c, if_pos, if_neg, opAnd, opOr, opXor, opDiff, opShr, opBit, hf, e4, e5, e10, e11, hg1, hg2, hgo, hlt, hc] <;> omega)), (by rw [hs]; exact hu)⟩
      (case hm => first | omega | (simp; omega))
      (case hf => simp [FrameL, hf, e4, e5, e10, e11, hg1, hg2, hgo, hlt, hc, f4_0, f5_0, f10_0])
    · rw [if_pos hc] at hs
      have ntu := (hu.own (by simp; omega)).nt
      have csu := (hu.own (by simp; omega)).cs
      try simp (disch := first | omega | (simp; done) | fail) [wrap64c, if_pos, if_neg, opAnd, opOr, opXor, opDiff, opShr, opBit, hf, e4, e5, e10, e11, hg1, hg2, hgo, hlt, hc, ntu, csu]
      obtain ⟨u2, h2, hap, hu2, ha2, hn2, hs2⟩ := appI hu (k : Int) (by simp; omega) ha0 ha (by omega)
      have gq : h2.get (h.next + 1) = .cells [.int .i64 (n : Int), u] true true 1 := by rw [hs2 _ (by omega) (by omega)]; exact hg2
      have gq1 : h2.get h.next = .cells [.int .i64 0, .slice none 0 0] true true 1 := by rw [hs2 _ (by omega) (by omega)]; exact hg1
      have nt2 := (hu2.own (by simp; omega)).nt
      have cs2 := (hu2.own (by simp; omega)).cs
      try simp (disch := first | omega | (simp; done) | fail) [wrap64c, if_pos, if_neg, opAnd, opOr, opXor, opDiff, opShr, opBit, hf, e4, e5, e10, e11, hg1, hg2, hgo, hlt, hc, ntu, csu, gq, gq1, nt2, cs2, hap, putCells]
      refine loopK_next _ ?hm ?hf ⟨k + 1, u2, rfl, (by simp (disch := first | omega | (simp; done) | fail) [wrap64c, if_pos, if_neg, opAnd, opOr, opXor, opDiff, opShr, opBit, hf, e4, e5, e10, e11, hg1, hg2, hgo, hlt, hc, ntu, csu, gq, gq1, nt2, cs2] <;> omega), (by first | omega | assumption | (simp (disch := first | omega | (simp; done) | fail) [wrap64c, if_pos, if_neg, opAnd, opOr, opXor, opDiff, opShr, opBit, hf, e4, e5, e10, e11, hg1, hg2, hgo, hlt, hc, ntu, csu, gq, gq1, nt2, cs2] <;> omega)), (by first | exact aK | exact kK), (by simp; omega), (by simp [gq1]), (by simp), (by rw [hs, toN_snoc]; exact IntsA.putB hu2 (by omega) _)⟩
      (case hm => first | omega | (simp; omega))
      (case hf => simp [FrameL, hf, e4, e5, e10, e11, hg1, hg2, hgo, hlt, hc, ntu, csu, gq, gq1, nt2, cs2, f4_0, f5_0, f10_0])
  · have e : k = 128 := by omega
    subst e
    have hle := famK_len M 128
    have ntu := (hu.own (by simp; omega)).nt
    have csu := (hu.own (by simp; omega)).cs
    try simp (disch := first | omega | (simp; done) | fail) [wrap64c, if_pos, if_neg, opAnd, opOr, opXor, opDiff, opShr, opBit, hf, e4, e5, e10, e11, hg1, hg2, hgo, hlt, ntu, csu, putCells]
    have hn1 := ha.1.1
    refine done_ret (by simp [putCells, e4]; rfl) ⟨(by first | exact aK | exact kK), u, by simp, ?_⟩
    exact ((IntsA.putB hu (show h.next < h0.next by omega) _).own (by simp; omega)).sub fun o ho => ⟨by have := ho.1; omega, by have := ho.2; simpa using this⟩
theorem sl_take {α : Type} {R : Hp → Value → α → Prop} {h : Hp} {o i n c k : Nat} {xs : List α} (hs : Sl R h (.slice (some ⟨o, i, none⟩) n c) xs) (hk : k ≤ xs.length) : Sl R h (.slice (some ⟨o, i, none⟩) k c) (xs.take k) := by
  obtain ⟨s, c', e, hc, hc', hx⟩ := hs
  cases e
  refine ⟨some ⟨o, i, none⟩, c, by simp [Nat.min_eq_left hk], by simp; omega, hc', fun j x hj => ?_⟩
  rw [List.getElem?_take] at hj
  split at hj
  · exact hx j x hj
  · cases hj
theorem sl_drop {α : Type} {R : Hp → Value → α → Prop} {h : Hp} {o i n c k : Nat} {xs : List α} (hs : Sl R h (.slice (some ⟨o, i, none⟩) n c) xs) (hk : k ≤ xs.length) : Sl R h (.slice (some ⟨o, i + k, none⟩) (n - k) (c - k)) (xs.drop k) := by
  obtain ⟨s, c', e, hc, hc', hx⟩ := hs
  cases e
  refine ⟨some ⟨o, i + k, none⟩, c - k, by simp, by simp; omega, by omega, fun j x hj => ?_⟩
  rw [List.getElem?_drop] at hj
  obtain ⟨o', i', cs, own, ex, es, h1, h2, h3, h4, h5⟩ := hx _ x hj
  cases h1
  exact ⟨o, i + k, cs, own, ex, es, rfl, h2, h3, by omega, by rw [Nat.add_assoc]; exact h5⟩
theorem split_at {l : List Nat} {a k : Nat} (hk : k ≤ l.length) (h1 : ∀ i (h : i < l.length), i < k → l[i] < a) (h2 : ∀ i (h : i < l.length), k ≤ i → a < l[i]) : l.take k = l.filter (fun x => decide (x < a)) ∧ l.drop k = l.filter fun x => decide (a < x) := by
  have e : l = l.take k ++ l.drop k := (List.take_append_drop k l).symm
  have ht : ∀ x ∈ l.take k, x < a := fun x hx => by
    obtain ⟨i, hi, rfl⟩ := List.mem_iff_getElem.1 hx
    simp at hi
    rw [List.getElem_take]
    exact h1 i (by omega) (by omega)
  have hd : ∀ x ∈ l.drop k, a < x := fun x hx => by
    obtain ⟨i, hi, rfl⟩ := List.mem_iff_getElem.1 hx
    simp at hi
    rw [List.getElem_drop]
    exact h2 _ (by omega) (by omega)
  constructor
  · rw (occs := [2]) [e]
    rw [List.filter_append, List.filter_eq_self.2 (fun x hx => by simpa using ht x hx), List.filter_eq_nil_iff.2 (fun x hx => by simp; have := hd x hx; omega), List.append_nil]
  · rw (occs := [2]) [e]
    rw [List.filter_append, List.filter_eq_nil_iff.2 (fun x hx => by simp; have := ht x hx; omega), List.filter_eq_self.2 (fun x hx => by simpa using hd x hx), List.nil_append]
theorem IntsA.lower {m n : Nat} {h : Hp} {v : Value} {xs : List Int} (hs : IntsA n h v xs) (hm : m ≤ n) : IntsA m h v xs := by
  rcases hs with ⟨a, b⟩ | ⟨p, ex, a, b, c, d⟩
  · exact .inl ⟨a, b⟩
  · exact .inr ⟨p, ex, a, by omega, c, d⟩
theorem l1Put_ok (h : Hp) (m : Nat) (v : Value) (l : List Nat) (a : Nat) (hv : IntsA m h v (toN l)) (hs : l.Pairwise (· < ·)) (hl : l.length < 2 ^ 38) (hm : m ≤ h.next) :
    ∃ v' h', CallOK Try.prog 101 #[v, .int .i64 (a : Int)] h v' h' ∧ Adds h h' ∧ IntsA m h' v' (toN (putL l a)) := by
  refine callY_L (args := [v, .int .i64 (a : Int)]) 48 _ [.tmp 4] Try.func101 rfl rfl rfl ?_
  have hvI := (hv.own (by simp; omega)).ints
  have hL := hvI.lenD
  have hgt := toN_get l
  have hln := toN_length l
  have hsg : ∀ i j (hi : i < l.length) (hj : j < l.length), i < j → l[i] < l[j] := fun i j hi hj hij => List.pairwise_iff_getElem.1 hs i j hi hj hij
  try simp (disch := first | omega | (simp; done) | fail) [wrap64c, if_pos, if_neg, opAnd, opOr, opXor, opDiff, opShr, opBit, hL, hgt]
  refine WD_loopC [0, 1] (fun m tm h' => ∃ j, m = l.length - j ∧ h = h' ∧ tm 5 = .int .i64 (j : Int) ∧ (j ≤ l.length) ∧ (∀ i (h1 : i < l.length), i < j → l[i] < a)) _ ⟨0, rfl, rfl, (by simp (disch := first | omega | (simp; done) | fail) [wrap64c, if_pos, if_neg, opAnd, opOr, opXor, opDiff, opShr, opBit, hL, hgt]), (by first | omega | assumption | (simp (disch := first | omega | (simp; done) | fail) [wrap64c, if_pos, if_neg, opAnd, opOr, opXor, opDiff, opShr, opBit, hL, hgt] <;> omega)), (by intro i h1 h2; omega)⟩ ?_
  rintro m tm h' hFr ⟨j, rfl, rfl, e5, hj, hx⟩
  simp only [FrameL] at hFr
  obtain ⟨f0_0, f1_0, -⟩ := hFr
  try simp (disch := first | omega | (simp; done) | fail) [wrap64c, if_pos, if_neg, opAnd, opOr, opXor, opDiff, opShr, opBit, hL, hgt] at f0_0 f1_0
  have e0 := f0_0
  have e1 := f1_0
  by_cases hlt : j < l.length
  · obtain ⟨o_x, i_x, c_x, cs_x, own_x, ex_x, es_x, q_x, b_x, g_x, l_x, r_x⟩ := hvI.open ((by omega))
    have z_x : ∀ h2 : i_x < cs_x.length, cs_x[i_x] = _ := fun h2 => r_x 0 ((by omega)) h2
    by_cases hc : l[j] < a
    · try simp (disch := first | omega | (simp; done) | fail) [wrap64c, if_pos, if_neg, opAnd, opOr, opXor, opDiff, opShr, opBit, hL, hgt, e0, e1, e5, hlt, q_x, g_x, l_x, r_x, z_x, hc]
      refine loopK_next _ ?hm ?hf ⟨j + 1, rfl, rfl, (by simp (disch := first | omega | (simp; done) | fail) [wrap64c, if_pos, if_neg, opAnd, opOr, opXor, opDiff, opShr, opBit, hL, hgt, e0, e1, e5, hlt, q_x, g_x, l_x, r_x, z_x, hc] <;> omega), (by first | omega | assumption | (simp (disch := first | omega | (simp; done) | fail) [wrap64c, if_pos, if_neg, opAnd, opOr, opXor, opDiff, opShr, opBit, hL, hgt, e0, e1, e5, hlt, q_x, g_x, l_x, r_x, z_x, hc] <;> omega)), ?c_hx⟩
      (case hm => first | omega | (simp; omega))
      (case hf => simp [FrameL, hL, hgt, e0, e1, e5, hlt, q_x, g_x, l_x, r_x, z_x, hc, f0_0, f1_0])
      case c_hx =>
        exact (fun i h1 hi => by
          by_cases e : i = j
          · subst e; exact hc
          · exact hx i h1 (by omega))
    · by_cases he : l[j] = a
      · have hm' : a ∈ l := he ▸ List.getElem_mem hlt
        have hb : ((l[j] : Int) == (a : Int)) = true := by simp [he]
        try simp (disch := first | omega | (simp; done) | fail) [wrap64c, if_pos, if_neg, opAnd, opOr, opXor, opDiff, opShr, opBit, hL, hgt, e0, e1, e5, hlt, q_x, g_x, l_x, r_x, z_x, hc, hb]
        refine done_ret rfl ⟨adds_self _, ?_⟩
        rw [q_x, hln] at hv
        rw [putL, if_pos hm']; exact hv
      · have hb : ((l[j] : Int) == (a : Int)) = false := by simp; omega
        have h2 : ∀ i (h : i < l.length), j ≤ i → a < l[i] := fun i hi hji => by
          by_cases e : i = j
          · subst e; omega
          · have := hsg j i hlt hi (by omega); omega
        have hnm : ¬ a ∈ l := fun hm' => by
          obtain ⟨i, hi, e⟩ := List.mem_iff_getElem.1 hm'
          by_cases hij : i < j
          · have := hx i hi hij; omega
          · have := h2 i hi (by omega); omega
        obtain ⟨t1, t2⟩ := split_at (a := a) (by omega) hx h2
        have hput : toN (putL l a) = ((toN l).take j ++ [(a : Int)]) ++ (toN l).drop j := by
          rw [putL, if_neg hnm, ← t1, ← t2, toN_append, toN_append]; simp [toN]
        have hvI2 := hvI
        rw [q_x] at hvI2
        have ht := sl_take (k := j) hvI2 (by omega)
        have hd := sl_drop (k := j) hvI2 (by omega)
        rw [hln] at hd
        have hcx : l.length ≤ c_x ∧ c_x < 2 ^ 63 := by
          obtain ⟨s, c, e, h1, h2⟩ := Sl.form hvI2
          cases e
          omega
        try simp (disch := first | omega | (simp; done) | fail) [wrap64c, if_pos, if_neg, opAnd, opOr, opXor, opDiff, opShr, opBit, hL, hgt, e0, e1, e5, hlt, q_x, g_x, l_x, r_x, z_x, hc, hb]
        first | refine WY_heap fun h1 q_h1 => ?_ | refine callG_heap fun h1 q_h1 => ?_ | refine callP_heap fun h1 q_h1 => ?_ | refine callS_heap fun h1 q_h1 => ?_ | refine RY_heap fun h1 q_h1 => ?_ | refine PY_heap fun h1 q_h1 => ?_ | refine SY_heap fun h1 q_h1 => ?_ | refine doneY_heap fun h1 q_h1 => ?_ | refine loopK_heap fun h1 q_h1 => ?_ | refine thenY_heap fun h1 q_h1 => ?_ | refine thenM_heap fun h1 q_h1 => ?_
        have k1 : Adds h h1 := by rw [q_h1]; exact (by first | exact aK | exact kK)
        have n1 : h1.next = h.next + 1 := by simp [q_h1]
        have hA : IntsA h.next h1 (.slice (some ⟨h.next, 0, none⟩) 0 0) [] := .lit (ex := true) (Nat.le_refl _) (by omega) (by simp [q_h1, zarr])
        obtain ⟨v2, h2', hap, hA2, k2, n2, s2⟩ := append_ints (P := Try.prog) (t := 25) (t' := 25) hA ((show Ints h _ _ from ht).keep k1.1) ty_elT_25 ty_szT_3 ty_zeroT_3 ty_byT_3 (by decide) (by decide) (by simp) (by simp; omega) (by omega) k1 (Nat.le_refl _)
        try simp (disch := first | omega | (simp; done) | fail) [wrap64c, if_pos, if_neg, opAnd, opOr, opXor, opDiff, opShr, opBit, hL, hgt, e0, e1, e5, hlt, q_x, g_x, l_x, r_x, z_x, hc, hb, hap]
        have h3n := k2.1.1
        obtain ⟨v3, h3, hap3, hA3, k3, n3, s3⟩ := appI hA2 (a : Int) (by simp; omega) h3n k2 (Nat.le_refl _)
        try simp (disch := first | omega | (simp; done) | fail) [wrap64c, if_pos, if_neg, opAnd, opOr, opXor, opDiff, opShr, opBit, hL, hgt, e0, e1, e5, hlt, q_x, g_x, l_x, r_x, z_x, hc, hb, hap3]
        obtain ⟨v4, h4, hap4, hA4, k4, n4, s4⟩ := append_ints (P := Try.prog) (t := 25) (t' := 25) hA3 ((show Ints h _ _ from hd).keep k3.1) ty_elT_25 ty_szT_3 ty_zeroT_3 ty_byT_3 (by decide) (by decide) (by simp) (by simp; omega) (by have := k3.1.1; omega) k3 (Nat.le_refl _)
        try simp (disch := first | omega | (simp; done) | fail) [wrap64c, if_pos, if_neg, opAnd, opOr, opXor, opDiff, opShr, opBit, hL, hgt, e0, e1, e5, hlt, q_x, g_x, l_x, r_x, z_x, hc, hb, hap4]
        refine done_ret rfl ⟨k4, ?_⟩
        rw [hput]
        simp only [List.nil_append] at hA4
        exact IntsA.lower hA4 hm
  · have hje : j = l.length := by omega
    have hput : toN (putL l a) = ((toN l).take j ++ [(a : Int)]) ++ (toN l).drop j := by
      have hnm : ¬ a ∈ l := fun hm' => by
        obtain ⟨i, hi, e⟩ := List.mem_iff_getElem.1 hm'
        have := hx i hi (by omega); omega
      obtain ⟨t1, t2⟩ := split_at (a := a) (by omega) hx (fun i h1 h2 => by omega)
      rw [putL, if_neg hnm, ← t1, ← t2, toN_append, toN_append]; simp [toN]
    have hlb : ¬ ((j : Int) < (l.length : Int)) := by omega
    rcases hv with ⟨y1, y2⟩ | ⟨o, ex, y1, y2, y3, y4⟩
    · subst y2
      have hl0 : l.length = 0 := by rw [← toN_length, y1]; rfl
      have hj0 : j = 0 := by omega
      subst hj0
      rw [y1] at hput
      try simp (disch := first | omega | (simp; done) | fail) [wrap64c, if_pos, if_neg, opAnd, opOr, opXor, opDiff, opShr, opBit, hL, hgt, e0, e1, e5, hlt, hlb]
      first | refine WY_heap fun h1 q_h1 => ?_ | refine callG_heap fun h1 q_h1 => ?_ | refine callP_heap fun h1 q_h1 => ?_ | refine callS_heap fun h1 q_h1 => ?_ | refine RY_heap fun h1 q_h1 => ?_ | refine PY_heap fun h1 q_h1 => ?_ | refine SY_heap fun h1 q_h1 => ?_ | refine doneY_heap fun h1 q_h1 => ?_ | refine loopK_heap fun h1 q_h1 => ?_ | refine thenY_heap fun h1 q_h1 => ?_ | refine thenM_heap fun h1 q_h1 => ?_
      have k1 : Adds h h1 := by rw [q_h1]; exact (by first | exact aK | exact kK)
      have n1 : h1.next = h.next + 1 := by simp [q_h1]
      have hA : IntsA h.next h1 (.slice (some ⟨h.next, 0, none⟩) 0 0) [] := .lit (ex := true) (Nat.le_refl _) (by omega) (by simp [q_h1, zarr])
      have hno : Ints h1 (.slice none 0 0) [] := (IntsO.nil (fun _ => False) h1).ints
      obtain ⟨v2, h2', hap, hA2, k2, n2, s2⟩ := append_ints (P := Try.prog) (t := 25) (t' := 25) hA hno ty_elT_25 ty_szT_3 ty_zeroT_3 ty_byT_3 (by decide) (by decide) (by simp) (by simp) (by omega) k1 (Nat.le_refl _)
      try simp (disch := first | omega | (simp; done) | fail) [wrap64c, if_pos, if_neg, opAnd, opOr, opXor, opDiff, opShr, opBit, hL, hgt, e0, e1, e5, hlt, hlb, hap]
      have h3n := k2.1.1
      obtain ⟨v3, h3, hap3, hA3, k3, n3, s3⟩ := appI hA2 (a : Int) (by simp) h3n k2 (Nat.le_refl _)
      try simp (disch := first | omega | (simp; done) | fail) [wrap64c, if_pos, if_neg, opAnd, opOr, opXor, opDiff, opShr, opBit, hL, hgt, e0, e1, e5, hlt, hlb, hap3]
      have hno3 : Ints h3 (.slice none 0 0) [] := (IntsO.nil (fun _ => False) h3).ints
      obtain ⟨v4, h4, hap4, hA4, k4, n4, s4⟩ := append_ints (P := Try.prog) (t := 25) (t' := 25) hA3 hno3 ty_elT_25 ty_szT_3 ty_zeroT_3 ty_byT_3 (by decide) (by decide) (by simp) (by simp) (by have := k3.1.1; omega) k3 (Nat.le_refl _)
      try simp (disch := first | omega | (simp; done) | fail) [wrap64c, if_pos, if_neg, opAnd, opOr, opXor, opDiff, opShr, opBit, hL, hgt, e0, e1, e5, hlt, hlb, hap4]
      refine done_ret rfl ⟨k4, ?_⟩
      rw [hput]
      simp only [List.nil_append, List.take_zero, List.drop_zero] at hA4 ⊢
      exact IntsA.lower hA4 hm
    · subst y1
      rw [hln] at hvI
      have ht := sl_take (k := l.length) hvI (by omega)
      have hd := sl_drop (k := l.length) hvI (by omega)
      rw [Nat.zero_add, Nat.sub_self] at hd
      have hje := hje
      rw [hje] at hput
      have hln2 := hln
      try simp (disch := first | omega | (simp; done) | fail) [wrap64c, if_pos, if_neg, opAnd, opOr, opXor, opDiff, opShr, opBit, hL, hgt, e0, e1, e5, hlt, hlb, hje, hln2]
      first | refine WY_heap fun h1 q_h1 => ?_ | refine callG_heap fun h1 q_h1 => ?_ | refine callP_heap fun h1 q_h1 => ?_ | refine callS_heap fun h1 q_h1 => ?_ | refine RY_heap fun h1 q_h1 => ?_ | refine PY_heap fun h1 q_h1 => ?_ | refine SY_heap fun h1 q_h1 => ?_ | refine doneY_heap fun h1 q_h1 => ?_ | refine loopK_heap fun h1 q_h1 => ?_ | refine thenY_heap fun h1 q_h1 => ?_ | refine thenM_heap fun h1 q_h1 => ?_
      have k1 : Adds h h1 := by rw [q_h1]; exact (by first | exact aK | exact kK)
      have n1 : h1.next = h.next + 1 := by simp [q_h1]
      have hA : IntsA h.next h1 (.slice (some ⟨h.next, 0, none⟩) 0 0) [] := .lit (ex := true) (Nat.le_refl _) (by omega) (by simp [q_h1, zarr])
      obtain ⟨v2, h2', hap, hA2, k2, n2, s2⟩ := append_ints (P := Try.prog) (t := 25) (t' := 25) hA ((show Ints h _ _ from ht).keep k1.1) ty_elT_25 ty_szT_3 ty_zeroT_3 ty_byT_3 (by decide) (by decide) (by simp) (by simp; omega) (by omega) k1 (Nat.le_refl _)
      try simp (disch := first | omega | (simp; done) | fail) [wrap64c, if_pos, if_neg, opAnd, opOr, opXor, opDiff, opShr, opBit, hL, hgt, e0, e1, e5, hlt, hlb, hje, hln2, hap]
      have h3n := k2.1.1
      obtain ⟨v3, h3, hap3, hA3, k3, n3, s3⟩ := appI hA2 (a : Int) (by simp; omega) h3n k2 (Nat.le_refl _)
      try simp (disch := first | omega | (simp; done) | fail) [wrap64c, if_pos, if_neg, opAnd, opOr, opXor, opDiff, opShr, opBit, hL, hgt, e0, e1, e5, hlt, hlb, hje, hln2, hap3]
      obtain ⟨v4, h4, hap4, hA4, k4, n4, s4⟩ := append_ints (P := Try.prog) (t := 25) (t' := 25) hA3 ((show Ints h _ _ from hd).keep k3.1) ty_elT_25 ty_szT_3 ty_zeroT_3 ty_byT_3 (by decide) (by decide) (by simp) (by simp; omega) (by have := k3.1.1; omega) k3 (Nat.le_refl _)
      try simp (disch := first | omega | (simp; done) | fail) [wrap64c, if_pos, if_neg, opAnd, opOr, opXor, opDiff, opShr, opBit, hL, hgt, e0, e1, e5, hlt, hlb, hje, hln2, hap4]
      refine done_ret rfl ⟨k4, ?_⟩
      rw [hput]
      simp only [List.nil_append] at hA4
      exact IntsA.lower hA4 hm
theorem spPut_of (h : Hp) (v v' : Value) (a : Int) (h' : Hp) (hc : CallOK Try.prog 101 #[v, .int .i64 a] h v' h') : CallOK Try.prog 83 #[v, .int .i64 a] h v' h' := by
  have key : ∃ v2 h2, CallOK Try.prog 83 #[v, .int .i64 a] h v2 h2 ∧ v2 = v' ∧ h2 = h' := by
    refine callY_L (args := [v, .int .i64 a]) 8 _ [.tmp 4] Try.func83 rfl rfl rfl ?_
    try simp (disch := first | omega | (simp; done) | fail) [wrap64c, if_pos, if_neg, opAnd, opOr, opXor, opDiff, opShr, opBit]
    refine callG_c (by simp) (by simp) ?ha (hc) ?_
    (case ha => simp (disch := first | omega | (simp; done) | fail) [wrap64c, if_pos, if_neg, opAnd, opOr, opXor, opDiff, opShr, opBit])
    try simp (disch := first | omega | (simp; done) | fail) [wrap64c, if_pos, if_neg, opAnd, opOr, opXor, opDiff, opShr, opBit]
    exact done_ret rfl ⟨rfl, rfl⟩
  obtain ⟨_, _, hc2, rfl, rfl⟩ := key
  exact hc2
end Go.Proofs.Ytnnjehonbolliaa
namespace Go.Proofs.Ytnnjehonbolliaa
set_option linter.unusedSimpArgs false
set_option linter.unusedVariables false
set_option maxHeartbeats 4000000
open Go Go.Eng
attribute [local irreducible] WD RunD PreD Runs CallOK
theorem u64and : ∀ n : Nat, n < 61 → bAnd .u64 (n : Int) 4294967295 = (n : Int) := by decide +kernel
theorem u64shr : ∀ n : Nat, n < 61 → bShr .u64 (n : Int) 32 = 0 := by decide +kernel
theorem u64wrap : ∀ n : Nat, n < 61 → IntKind.wrap .u64 (n : Int) = (n : Int) := by decide +kernel
theorem i64wrap : ∀ n : Nat, n < 61 → IntKind.wrap .i64 (n : Int) = (n : Int) := by decide +kernel
theorem mul64_ok (h : Hp) (n : Nat) (hn : n < 61) : CallOK Try.prog 104 #[.int .u64 1, .int .u64 (n : Int)] h (.tuple #[.int .u64 0, .int .u64 (n : Int)]) h := by
  refine callY_P 51 _ [.tmp 4, .tmp 5] Try.func104 rfl rfl rfl (by first | rfl | simp) ?_
  have a1 := u64and n hn
  have a2 := u64shr n hn
  have a3 := u64wrap n hn
  have b1 : bAnd .u64 1 4294967295 = 1 := u64and 1 (by decide)
  have b2 : bShr .u64 1 32 = 0 := u64shr 1 (by decide)
  have b3 : bShr .u64 0 32 = 0 := u64shr 0 (by decide)
  have b4 : bAnd .u64 0 4294967295 = 0 := u64and 0 (by decide)
  have b5 : IntKind.wrap .u64 0 = 0 := u64wrap 0 (by decide)
  try simp (disch := first | omega | (simp; done) | fail) [wrap64c, if_pos, if_neg, a1, a2, a3, b1, b2, b3, b4, b5]
  exact done_ret rfl (by simp)
theorem mul_ok (h : Hp) (n : Nat) (hn : n < 61) : CallOK Try.prog 98 #[.int .u64 1, .int .u64 (n : Int)] h (.tuple #[.int .u64 0, .int .u64 (n : Int)]) h := by
  refine callY_P 30 _ [.tmp 4, .tmp 5] Try.func98 rfl rfl rfl (by first | rfl | simp) ?_
  try simp (disch := first | omega | (simp; done) | fail) [wrap64c, if_pos, if_neg]
  refine callG_c (by simp) (by simp) ?ha (mul64_ok h n hn) ?_
  (case ha => simp (disch := first | omega | (simp; done) | fail) [wrap64c, if_pos, if_neg])
  try simp (disch := first | omega | (simp; done) | fail) [wrap64c, if_pos, if_neg]
  exact done_ret rfl (by simp)
theorem copyD_eq {P : Program} {h : Hp} {t e : TypeId} {p i n c q j n2 c2 k m : Nat} {cp src : List Value} {ex : Bool} {es : Nat} (ht : elT P t = some e) (hm : szT P e = some m) (hk : k = min n2 n) (h0 : k ≠ 0) (hg : h.get p = .cells cp true ex es)
    (hs : srcV h m (.slice (some ⟨q, j, none⟩) k c2) = some (k, src)) (hl : i + n * m ≤ cp.length) (h63 : k < 2 ^ 63) :
    copyD P t (.slice (some ⟨p, i, none⟩) n c) (.slice (some ⟨q, j, none⟩) n2 c2) h = some (.int .i64 k, h.put p (.cells (putCells cp i src) true ex es)) := by
  subst hk
  unfold copyD
  simp only [ht, hm, hg, hs]
  rw [if_neg h0, if_pos ⟨trivial, hl, trivial, h63⟩]
theorem copyD_zero {P : Program} {h : Hp} {t e : TypeId} {p i n c q j n2 c2 m : Nat} (ht : elT P t = some e) (hm : szT P e = some m) (hk : min n2 n = 0) :
    copyD P t (.slice (some ⟨p, i, none⟩) n c) (.slice (some ⟨q, j, none⟩) n2 c2) h = some (.int .i64 0, h) := by
  unfold copyD
  simp only [ht, hm]
  rw [if_pos hk]
def repC (a : Int) (n k : Nat) : List Value := (List.replicate k a ++ List.replicate (n - k) 0).map (.int .i64)
theorem repC_len {a : Int} {n k : Nat} (hk : k ≤ n) : (repC a n k).length = n := by simp [repC]; omega
theorem repC_put {a : Int} {n k j : Nat} (hk : k + j ≤ n) : putCells (repC a n k) k (List.replicate j (.int .i64 a)) = repC a n (k + j) := by
  unfold putCells repC
  have h1 : ((List.replicate k a ++ List.replicate (n - k) 0).map (Value.int .i64)).take k = List.replicate k (.int .i64 a) := by
    rw [List.map_append, List.take_left' (by simp)]; simp
  have h2 : ((List.replicate k a ++ List.replicate (n - k) 0).map (Value.int .i64)).drop (k + (List.replicate j (Value.int .i64 a)).length) = List.replicate (n - (k + j)) (.int .i64 0) := by
    rw [List.map_append, List.drop_append, List.drop_eq_nil_of_le (by simp), List.nil_append]
    simp only [List.length_map, List.length_replicate, List.map_replicate, List.drop_replicate]
    congr 1; omega
  rw [h1, h2]
  simp [List.map_replicate, ← List.append_assoc, List.replicate_append_replicate]
theorem repC_take {a : Int} {n k j : Nat} (hj : j ≤ k) : (repC a n k).take j = List.replicate j (.int .i64 a) := by
  unfold repC
  rw [List.map_append, List.take_append_of_le_length (by simp; omega), List.map_replicate, List.take_replicate, Nat.min_eq_left hj]
theorem repeat_ok (h : Hp) (v : Value) (a : Int) (n : Nat) (hv : Ints h v [a]) (hn : n < 61) :
    ∃ v' h', CallOK Try.prog 75 #[v, .int .i64 (n : Int)] h v' h' ∧ Adds h h' ∧ IntsO (Btw h.next h'.next) h' v' (List.replicate n a) := by
  refine callY_L (args := [v, .int .i64 (n : Int)]) 48 _ [.tmp 4] Try.func75 rfl rfl rfl ?_
  have hL := hv.lenD
  have a3 := u64wrap n hn
  have a4 := i64wrap n hn
  have b5 : IntKind.wrap .u64 1 = 1 := u64wrap 1 (by decide)
  have nn : ¬ (n : Int) < 0 := by omega
  have nb : ¬ (9223372036854775807 : Int) < (n : Int) := by omega
  try simp (disch := first | omega | (simp; done) | fail) [wrap64c, if_pos, if_neg, hL, a3, a4, b5, nn, nb]
  refine callG_c (by simp) (by simp) ?ha (mul_ok h n hn) ?_
  (case ha => simp (disch := first | omega | (simp; done) | fail) [wrap64c, if_pos, if_neg, hL, a3, a4, b5, nn, nb])
  try simp (disch := first | omega | (simp; done) | fail) [wrap64c, if_pos, if_neg, hL, a3, a4, b5, nn, nb, (by omega : (n : Int) < 140737488355328), (by omega : (8 : Int) * n ≤ 281474976710656)]
  obtain ⟨o_x, i_x, c_x, cs_x, own_x, ex_x, es_x, q_x, b_x, g_x, l_x, r_x⟩ := hv.open ((by simp))
  have z_x : ∀ h2 : i_x < cs_x.length, cs_x[i_x] = _ := fun h2 => r_x 0 ((by simp)) h2
  have ka : Keeps h (h.alloc (.cells (List.replicate n (.int .i64 0)) true true 1)) := Keeps.alloc _ _
  have hsr := (hv.keep ka).src
  rw [q_x] at hsr
  rcases Nat.eq_zero_or_pos n with h0 | h0
  · have hz := copyD_zero (P := Try.prog) (h := h.alloc (.cells (List.replicate n (.int .i64 0)) true true 1)) (t := 25) (e := 3) (m := 1) (p := h.next) (i := 0) (n := n) (c := n) (q := o_x) (j := i_x) (n2 := 1) (c2 := c_x) ty_elT_25 ty_szT_3 (by omega)
    try simp (disch := first | omega | (simp; done) | fail) [wrap64c, if_pos, if_neg, hL, a3, a4, b5, nn, nb, q_x, g_x, l_x, r_x, z_x, hz]
    refine WD_loopC [7] (fun m tm h' => ∃ k, m = n - k ∧ tm 8 = .int .i64 (k : Int) ∧ (k ≤ n) ∧ (Adds h h') ∧ (h'.next = h.next + 1) ∧ (h'.get h.next = .cells ((List.replicate n a).map (.int .i64)) true true 1)) _ ⟨0, rfl, (by simp (disch := first | omega | (simp; done) | fail) [wrap64c, if_pos, if_neg, hL, a3, a4, b5, nn, nb, q_x, g_x, l_x, r_x, z_x, hz]), (by first | omega | assumption | (simp (disch := first | omega | (simp; done) | fail) [wrap64c, if_pos, if_neg, hL, a3, a4, b5, nn, nb, q_x, g_x, l_x, r_x, z_x, hz] <;> omega)), (by first | exact aK | exact kK), (by simp), (by simp [h0])⟩ ?_
    rintro m tm h' hFr ⟨k, rfl, e8, hk, ha, hnx, hg⟩
    simp only [FrameL] at hFr
    obtain ⟨f7_0, -⟩ := hFr
    try simp (disch := first | omega | (simp; done) | fail) [wrap64c, if_pos, if_neg, hL, a3, a4, b5, nn, nb, q_x, g_x, l_x, r_x, z_x, hz] at f7_0
    have e7 := f7_0
    have hlt : ¬ (k : Int) < (n : Int) := by omega
    try simp (disch := first | omega | (simp; done) | fail) [wrap64c, if_pos, if_neg, hL, a3, a4, b5, nn, nb, q_x, g_x, l_x, r_x, z_x, hz, e7, e8, hlt]
    have := IntsO.mk (S := Btw h.next h'.next) (xs := List.replicate n a) (ex := true) ⟨Nat.le_refl _, by omega⟩ (by omega) (by simp; omega) hg
    exact done_ret rfl ⟨ha, by simpa using this⟩
  · have hcp := copyD_eq (P := Try.prog) (h := h.alloc (.cells (List.replicate n (.int .i64 0)) true true 1)) (t := 25) (e := 3) (m := 1) (p := h.next) (i := 0) (n := n) (c := n) (q := o_x) (j := i_x) (n2 := 1) (c2 := c_x) (k := 1) (ex := true) (es := 1) (cp := repC a n 0) (src := [.int .i64 a]) ty_elT_25 ty_szT_3 (by omega) (by omega) (by simp [repC]) hsr (by rw [repC_len (by omega)]; omega) (by omega)
    have hpt := repC_put (a := a) (n := n) (k := 0) (j := 1) (by omega)
    simp only [List.replicate_one, Nat.zero_add] at hpt
    rw [hpt] at hcp
    have hcp := hcp
    try simp (disch := first | omega | (simp; done) | fail) [wrap64c, if_pos, if_neg, hL, a3, a4, b5, nn, nb, q_x, g_x, l_x, r_x, z_x, hcp]
    refine WD_loopC [7] (fun m tm h' => ∃ k, m = n - k ∧ tm 8 = .int .i64 (k : Int) ∧ (k ≤ n) ∧ (1 ≤ k) ∧ (Adds h h') ∧ (h'.next = h.next + 1) ∧ (h'.get h.next = .cells (repC a n k) true true 1)) _ ⟨1, rfl, (by simp (disch := first | omega | (simp; done) | fail) [wrap64c, if_pos, if_neg, hL, a3, a4, b5, nn, nb, q_x, g_x, l_x, r_x, z_x, hcp]), (by first | omega | assumption | (simp (disch := first | omega | (simp; done) | fail) [wrap64c, if_pos, if_neg, hL, a3, a4, b5, nn, nb, q_x, g_x, l_x, r_x, z_x, hcp] <;> omega)), (by first | omega | assumption | (simp (disch := first | omega | (simp; done) | fail) [wrap64c, if_pos, if_neg, hL, a3, a4, b5, nn, nb, q_x, g_x, l_x, r_x, z_x, hcp] <;> omega)), (by first | exact aK | exact kK), (by simp), (by simp)⟩ ?_
    rintro m tm h' hFr ⟨k, rfl, e8, hk, h1k, ha, hnx, hg⟩
    simp only [FrameL] at hFr
    obtain ⟨f7_1, -⟩ := hFr
    try simp (disch := first | omega | (simp; done) | fail) [wrap64c, if_pos, if_neg, hL, a3, a4, b5, nn, nb, q_x, g_x, l_x, r_x, z_x, hcp] at f7_1
    have e7 := f7_1
    have hcl := repC_len (a := a) hk
    by_cases hlt : k < n
    · have hkn : ¬ (n : Int) < (k : Int) := by omega
      obtain ⟨j, hj⟩ : ∃ j, j = min k (n - k) := ⟨_, rfl⟩
      rename Hp => hq
      have hcp := copyD_eq (h := hq) (P := Try.prog) (t := 25) (e := 3) (m := 1) (p := h.next) (i := k) (n := n - k) (c := n - k) (q := h.next) (j := 0) (n2 := k) (c2 := n) (k := j) (cp := repC a n k) (src := List.replicate j (.int .i64 a)) ty_elT_25 ty_szT_3 hj (by omega) hg (by
        unfold srcV srcW
        simp only [hg, hcl, List.drop_zero, Nat.mul_one]
        rw [if_pos (by omega), repC_take (by omega)]) (by omega) (by omega)
      rw [repC_put (by omega)] at hcp
      try simp (disch := first | omega | (simp; done) | fail) [wrap64c, if_pos, if_neg, hL, a3, a4, b5, nn, nb, q_x, g_x, l_x, r_x, z_x, hcp, e7, e8, hlt]
      refine WD_chainC rfl (by kernel_rfl) (by kernel_rfl) ?_
      try simp (disch := first | omega | (simp; done) | fail) [wrap64c, if_pos, if_neg, hL, a3, a4, b5, nn, nb, q_x, g_x, l_x, r_x, z_x, hcp, e7, e8, hlt]
      refine loopK_next _ ?hm ?hf ⟨k + j, rfl, (by simp (disch := first | omega | (simp; done) | fail) [wrap64c, if_pos, if_neg, hL, a3, a4, b5, nn, nb, q_x, g_x, l_x, r_x, z_x, hcp, e7, e8, hlt] <;> omega), (by first | omega | assumption | (simp (disch := first | omega | (simp; done) | fail) [wrap64c, if_pos, if_neg, hL, a3, a4, b5, nn, nb, q_x, g_x, l_x, r_x, z_x, hcp, e7, e8, hlt] <;> omega)), (by first | omega | assumption | (simp (disch := first | omega | (simp; done) | fail) [wrap64c, if_pos, if_neg, hL, a3, a4, b5, nn, nb, q_x, g_x, l_x, r_x, z_x, hcp, e7, e8, hlt] <;> omega)), (by first | omega | assumption | (simp (disch := first | omega | (simp; done) | fail) [wrap64c, if_pos, if_neg, hL, a3, a4, b5, nn, nb, q_x, g_x, l_x, r_x, z_x, hcp, e7, e8, hlt] <;> omega)), (by simpa using hnx), (by simp)⟩
      (case hm => exact (by omega))
      (case hf => simp [FrameL, hL, a3, a4, b5, nn, nb, q_x, g_x, l_x, r_x, z_x, hcp, e7, e8, hlt, f7_1])
    · try simp (disch := first | omega | (simp; done) | fail) [wrap64c, if_pos, if_neg, hL, a3, a4, b5, nn, nb, q_x, g_x, l_x, r_x, z_x, hcp, e7, e8, hlt]
      have hke : k = n := by omega
      rw [hke] at hg
      have he : repC a n n = (List.replicate n a).map (.int .i64) := by simp [repC]
      rw [he] at hg
      have := IntsO.mk (S := Btw h.next h'.next) (xs := List.replicate n a) (ex := true) ⟨Nat.le_refl _, by omega⟩ (by omega) (by simp; omega) hg
      exact done_ret rfl ⟨ha, by simpa using this⟩
end Go.Proofs.Ytnnjehonbolliaa
namespace Go.Proofs.Ytnnjehonbolliaa
set_option linter.unusedSimpArgs false
set_option linter.unusedVariables false
set_option maxHeartbeats 4000000
open Go Go.Eng
def placesN (F : List Int) (k : Nat) : List Int := (List.range k).flatMap fun (i : Nat) => List.replicate (F.getD i 0).toNat (i : Int)
def startN (F : List Int) (k : Nat) : Nat := (placesN F k).length
def startsL (F : List Int) (k : Nat) : List Int := toN ((List.range k).map (startN F))
theorem placesN_succ (F : List Int) (k : Nat) : placesN F (k + 1) = placesN F k ++ List.replicate (F.getD k 0).toNat (k : Int) := by simp [placesN, List.range_succ]
theorem startN_succ (F : List Int) (k : Nat) : startN F (k + 1) = startN F k + (F.getD k 0).toNat := by simp [startN, placesN_succ]
theorem startsL_succ (F : List Int) (k : Nat) : startsL F (k + 1) = startsL F k ++ [((startN F k : Nat) : Int)] := by simp [startsL, List.range_succ, toN]
@[simp] theorem startsL_len (F : List Int) (k : Nat) : (startsL F k).length = k := by simp [startsL]
theorem startsL_get (F : List Int) (k i : Nat) (h : i < (startsL F k).length) : (startsL F k)[i] = ((startN F i : Nat) : Int) := by simp [startsL, toN]
theorem startN_mono (F : List Int) {i k : Nat} (h : i ≤ k) : startN F i ≤ startN F k := by
  induction k with
  | zero => have : i = 0 := by omega
            subst this; exact Nat.le_refl _
  | succ k ih =>
    rcases Nat.lt_or_ge i (k + 1) with h1 | h1
    · have := ih (by omega); rw [startN_succ]; omega
    · have : i = k + 1 := by omega
      subst this; exact Nat.le_refl _
theorem startN_sum {F : List Int} (hF : ∀ y ∈ F, 0 ≤ y) : ∀ k, k ≤ F.length → ((startN F k : Nat) : Int) = (F.take k).sum
  | 0, _ => by simp [startN, placesN]
  | k + 1, h => by
    have h1 := startN_sum hF k (by omega)
    have h2 := hF _ (List.getElem_mem (show k < F.length by omega))
    rw [startN_succ, List.take_succ_eq_append_getElem (show k < F.length by omega), List.sum_append, getD_at (show k < F.length by omega)]
    simp; omega
def shN (a s : Nat) : Nat := (bit a - 1) <<< s
def setN (F x : List Int) : Nat → Nat
  | 0 => 0
  | k + 1 => nOr (setN F x k) (shN (x.getD k 0).toNat (startN F k))
theorem shl_lt (a s : Nat) : shN a s < bit (s + a) := by
  unfold shN bit
  rw [Nat.shiftLeft_eq, Nat.pow_add, Nat.mul_comm (2 ^ s)]
  exact Nat.mul_lt_mul_of_pos_right (by have := Nat.two_pow_pos a; omega) (Nat.two_pow_pos s)
theorem setN_lt {F x : List Int} (hx : ∀ i, x.getD i 0 ≤ F.getD i 0) : ∀ k, setN F x k < bit (startN F k)
  | 0 => by simp [setN]; exact bit_pos _
  | k + 1 => by
    have h1 := setN_lt hx k
    have h2 := shl_lt (x.getD k 0).toNat (startN F k)
    have h3 := hx k
    rw [startN_succ]
    refine nOr_lt (Nat.lt_of_lt_of_le h1 (bit_mono (by omega))) (Nat.lt_of_lt_of_le h2 (bit_mono (by omega)))
theorem setN_zero (F : List Int) (n k : Nat) : setN F (List.replicate n 0) k = 0 := by
  induction k with
  | zero => rfl
  | succ k ih =>
    have : (List.replicate n (0 : Int)).getD k 0 = 0 := by simp [List.getD_eq_getElem?_getD, List.getElem?_replicate]; split <;> simp
    rw [setN, ih, this]
    simp [bit, nOr, shN]
noncomputable def isRunSet (L : List (List Int)) (A F : List Int) (a : Nat) : Bool := @decide (∃ x B, Rn L A x B ∧ setN F x A.length = a) (Classical.propDecidable _)
theorem isRunSet_iff {L : List (List Int)} {A F : List Int} {a : Nat} : isRunSet L A F a = true ↔ ∃ x B, Rn L A x B ∧ setN F x A.length = a := by
  unfold isRunSet; exact @decide_eq_true_iff _ (Classical.propDecidable _)
noncomputable def runSets (L : List (List Int)) (A F : List Int) : List Nat := famK (isRunSet L A F) 128
theorem runSets_eq {L : List (List Int)} {A F : List Int} {l : List Nat} (hs : l.Pairwise (· < ·)) (h1 : ∀ a ∈ l, a < 128 ∧ ∃ x B, Rn L A x B ∧ setN F x A.length = a) (h2 : ∀ x B, Rn L A x B → setN F x A.length ∈ l) : l = runSets L A F := by
  refine srt_ext hs ?_ fun a => ?_
  · exact List.Pairwise.filter _ List.pairwise_lt_range
  · unfold runSets famK
    rw [List.mem_filter, List.mem_range, isRunSet_iff]
    constructor
    · intro h; exact h1 a h
    · rintro ⟨_, x, B, hr, rfl⟩; exact h2 x B hr
noncomputable def rsF (L : List (List Int)) (A : List Int) : List Int := (countsR L A).getD []
noncomputable def rsB (L : List (List Int)) (A : List Int) : Bool := (countsR L A).isSome && sizeB ((placesN (rsF L A) A.length).length : Int)
noncomputable def rsN (L : List (List Int)) (A : List Int) : Int := if rsB L A = true then ((placesN (rsF L A) A.length).length : Int) else 0
noncomputable def rsX (L : List (List Int)) (A : List Int) : List Int := if rsB L A = true then toN (runSets L A (rsF L A)) else []
noncomputable def rsP (L : List (List Int)) (A : List Int) : List Int := if rsB L A = true then placesN (rsF L A) A.length else []
theorem rs_full {L : List (List Int)} {A run E : List Int} (hf : fullR L A [] = some (run, E)) (hs : Shape L A.length) : rsF L A = cntL A.length run ∧ startN (rsF L A) A.length = run.length ∧ (rsF L A).length = A.length ∧ (∀ y ∈ rsF L A, 0 ≤ y ∧ y ≤ 60) ∧ (∀ i, startN (rsF L A) i ≤ run.length ∨ A.length < i) ∧
    (∀ x B, Rn L A x B → ∀ i, x.getD i 0 ≤ (rsF L A).getD i 0) ∧ rsB L A = sizeB (run.length : Int) := by
  have f := fullR_fin (by simp) hf
  have hR : run.length ≤ 60 := (fullR_len (by simp) hf).1
  have e : rsF L A = cntL A.length run := by simp [rsF, countsR, hf, fst?]
  have hl := f.rn.len.2
  have hb := f.rn.small (by rw [f.sum]; omega)
  have hst : startN (cntL A.length run) A.length = run.length := by
    have := startN_sum (fun y hy => (hb y hy).1) A.length (by omega)
    rw [List.take_of_length_le (by omega), f.sum] at this
    omega
  rw [e]
  refine ⟨rfl, hst, hl, hb, fun i => ?_, fun x B hr i => f.rn.le f.last hr hs i, ?_⟩
  · by_cases hi : i ≤ A.length
    · left; rw [← hst]; exact startN_mono _ hi
    · right; omega
  · have : (countsR L A).isSome = true := by simp [countsR, hf, fst?]
    rw [rsB, this, e, Bool.true_and]
    show sizeB ((startN (cntL A.length run) A.length : Nat) : Int) = _
    rw [hst]
end Go.Proofs.Ytnnjehonbolliaa
namespace Go.Proofs.Ytnnjehonbolliaa
set_option linter.unusedSimpArgs false
set_option linter.unusedVariables false
set_option maxHeartbeats 4000000
open Go Go.Eng
def pcF : Nat → Nat → Nat
  | 0, _ => 0
  | k + 1, a => a % 2 + pcF k (a / 2)
def pcN (a : Nat) : Nat := pcF 7 a
theorem pcF_zero : ∀ k, pcF k 0 = 0
  | 0 => rfl
  | k + 1 => by simp [pcF, pcF_zero k]
theorem pc_or : ∀ s, s < 128 → ∀ i, i < 7 → s.testBit i = false → pcN (s ||| 2 ^ i) = pcN s + 1 := by decide +kernel
theorem pcN_or {s i : Nat} (h1 : s < 128) (h2 : i < 7) (h3 : s.testBit i = false) : pcN (nOr s (bit i)) = pcN s + 1 := pc_or s h1 i h2 h3
theorem pc_full : ∀ n, n < 8 → pcN (2 ^ n - 1) = n := by decide +kernel
theorem pcN_full {n : Nat} (h : n ≤ 7) : pcN (bit n - 1) = n := pc_full n (by omega)
theorem pc_lt : ∀ n, n < 8 → ∀ s, s < 2 ^ n → pcN s ≤ n ∧ (pcN s = n → s = 2 ^ n - 1) := by decide +kernel
theorem pcN_lt {n s : Nat} (h : n ≤ 7) (hs : s < bit n) : pcN s ≤ n ∧ (pcN s = n → s = bit n - 1) := pc_lt n (by omega) s hs
theorem xor_less : ∀ y, y < 128 → ∀ i, i < 7 → y.testBit i = true → y ^^^ 2 ^ i < y := by decide +kernel
theorem maskN_ne {p : Nat → Bool} {k : Nat} : maskN p k ≠ 0 ↔ ∃ i, i < k ∧ p i = true := by
  constructor
  · intro h
    apply Classical.byContradiction
    intro hn
    apply h
    apply eq_bits
    intro i
    rw [maskN_bit, Nat.zero_testBit]
    by_cases hi : i < k
    · cases hp : p i
      · simp
      · exact absurd ⟨i, hi, hp⟩ hn
    · simp [hi]
  · rintro ⟨i, hi, hp⟩ h
    have := maskN_bit p k i
    rw [h, hp] at this
    simp [hi] at this
theorem items_ne {a : Nat} (ha : a < 128) : a ≠ 0 → itemsN a ≠ [] := by
  intro h hn
  apply h
  apply eq_bits_n (n := 7) ha (by decide)
  intro i hi
  rw [Nat.zero_testBit]
  cases hb : a.testBit i
  · rfl
  · have : i ∈ itemsN a := mem_items.2 ⟨hi, hb⟩
    rw [hn] at this
    cases this
theorem outerN_bit (M : Nat → Bool) (n a i : Nat) : (outerN M n a).testBit i = (decide (i < n) && (!a.testBit i && M (nOr a (bit i)))) := maskN_bit _ _ _
theorem SpGood.next {n : Nat} {xs : List Nat} (g : SpGood n xs) {x : Nat} (hx : x ∈ xs) : ∀ (y : Nat), y ∈ xs → (∃ j, y.testBit j = true ∧ x.testBit j = false) → ∃ i, i < n ∧ x.testBit i = false ∧ nOr x (bit i) ∈ xs ∧ y.testBit i = true := by
  intro y
  induction y using Nat.strongRecOn with
  | _ y ih =>
    rintro hy ⟨j, hj1, hj2⟩
    have hy0 : y ≠ 0 := by rintro rfl; simp at hj1
    obtain ⟨i, hi7, hp⟩ := maskN_ne.1 (g.inn y hy hy0)
    simp only [Bool.and_eq_true] at hp
    obtain ⟨hi, hM⟩ := hp
    have hy' : nXor y (bit i) ∈ xs := of_decide_eq_true hM
    have hin : i < n := by
      apply Classical.byContradiction
      intro hn
      rw [hi_bit (g.lt y hy) (by omega)] at hi
      cases hi
    have hlt : nXor y (bit i) < y := xor_less y (g.lt7 y hy) i hi7 hi
    by_cases hs : ∃ j, (nXor y (bit i)).testBit j = true ∧ x.testBit j = false
    · obtain ⟨k, h1, h2, h3, h4⟩ := ih _ hlt hy' hs
      refine ⟨k, h1, h2, h3, ?_⟩
      rw [nXor_bit, bit_bit] at h4
      by_cases e : i = k
      · subst e; exact hi
      · simpa [e] using h4
    · have hxi : x.testBit i = false := by
        cases hb : x.testBit i
        · rfl
        · exfalso
          apply hs
          refine ⟨j, ?_, hj2⟩
          rw [nXor_bit, bit_bit]
          have : ¬ i = j := by rintro rfl; rw [hb] at hj2; cases hj2
          simp [this, hj1]
      refine ⟨i, hin, hxi, ?_, hi⟩
      have e : nOr x y = nOr x (bit i) := by
        apply eq_bits
        intro k
        rw [nOr_bit, nOr_bit, bit_bit]
        by_cases ek : i = k
        · subst ek; simp [hi]
        · cases hk : y.testBit k
          · simp [ek]
          · have hxk : x.testBit k = true := by
              cases hb : x.testBit k
              · exact absurd ⟨k, by rw [nXor_bit, bit_bit]; simp [ek, hk], hb⟩ hs
              · rfl
            simp [hxk]
      rw [← e]
      exact g.uni x hx y hy
theorem SpGood.bits {n : Nat} {xs : List Nat} (g : SpGood n xs) {x : Nat} (hx : x ∈ xs) (h : ∀ i, i < n → x.testBit i = true) : x = bit n - 1 :=
  eq_bits_n (g.lt x hx) (by have := bit_pos n; omega) fun i hi => by rw [h i hi, full_bit]; simp [hi]
theorem SpGood.outer {n : Nat} {xs : List Nat} (g : SpGood n xs) {x : Nat} (hx : x ∈ xs) (hne : x ≠ bit n - 1) : outerN (fam xs) n x ≠ 0 := by
  have : ∃ j, (bit n - 1).testBit j = true ∧ x.testBit j = false := by
    apply Classical.byContradiction
    intro hn
    apply hne
    refine g.bits hx fun i hi => ?_
    cases hb : x.testBit i
    · exact absurd ⟨i, by rw [full_bit]; simp [hi], hb⟩ hn
    · rfl
  obtain ⟨i, h1, h2, h3, _⟩ := g.next hx _ g.full this
  exact maskN_ne.2 ⟨i, h1, by simp [h2, fam, h3]⟩
theorem SpGood.outer7 {n : Nat} {xs : List Nat} (g : SpGood n xs) (x : Nat) : outerN (fam xs) 7 x = outerN (fam xs) n x := by
  apply eq_bits
  intro i
  rw [outerN_bit, outerN_bit]
  by_cases hi : i < n
  · have := g.n7; simp [hi, show i < 7 by omega]
  · have : fam xs (nOr x (bit i)) = false := by
      unfold fam
      rw [decide_eq_false_iff_not]
      intro hm
      have h1 := hi_bit (i := i) (g.lt _ hm) (by omega)
      rw [nOr_bit, bit_bit] at h1
      simp at h1
    simp [this, hi]
theorem SpGood.learn {n : Nat} {xs : List Nat} (g : SpGood n xs) {x i : Nat} (hi : i ∈ itemsN (outerN (fam xs) n x)) : i < n ∧ x.testBit i = false ∧ nOr x (bit i) ∈ xs := by
  have h1 := (mem_items.1 hi).2
  rw [outerN_bit] at h1
  simp only [Bool.and_eq_true, Bool.not_eq_true', decide_eq_true_eq] at h1
  exact ⟨h1.1, h1.2.1, of_decide_eq_true h1.2.2⟩
theorem outerN_lt (M : Nat → Bool) (n a : Nat) : outerN M n a < bit n := maskN_lt _ _
def pickN (ch : List Int) (k : Nat) (l : List Nat) : Nat := if h : k < ch.length then l.getD (ch[k].toNat % l.length) 0 else l.getD 0 0
theorem pickN_mem {ch : List Int} {k : Nat} {l : List Nat} (h : l ≠ []) : pickN ch k l ∈ l := by
  have hl : 0 < l.length := List.length_pos_iff.2 h
  unfold pickN
  split
  · have := Nat.mod_lt (ch[k].toNat) hl
    rw [List.getD_eq_getElem?_getD, List.getElem?_eq_getElem this]
    exact List.getElem_mem this
  · rw [List.getD_eq_getElem?_getD, List.getElem?_eq_getElem hl]
    exact List.getElem_mem hl
def walkS (M : Nat → Bool) (n : Nat) (ch : List Int) : Nat → List Nat × Nat
  | 0 => ([], 0)
  | k + 1 => ((walkS M n ch k).1 ++ [pickN ch k (itemsN (outerN M n (walkS M n ch k).2))], nOr (walkS M n ch k).2 (bit (pickN ch k (itemsN (outerN M n (walkS M n ch k).2)))))
theorem walk_len (M : Nat → Bool) (n : Nat) (ch : List Int) : ∀ k, (walkS M n ch k).1.length = k
  | 0 => rfl
  | k + 1 => by simp [walkS, walk_len M n ch k]
theorem walk_inv {n : Nat} {xs : List Nat} (g : SpGood n xs) (ch : List Int) : ∀ k, k ≤ n → (walkS (fam xs) n ch k).2 ∈ xs ∧ pcN (walkS (fam xs) n ch k).2 = k
  | 0, _ => ⟨g.zero, by show pcN 0 = 0; decide⟩
  | k + 1, hk => by
    obtain ⟨h1, h2⟩ := walk_inv g ch k (by omega)
    have hne : (walkS (fam xs) n ch k).2 ≠ bit n - 1 := by intro e; rw [e, pcN_full g.n7] at h2; omega
    have hm := pickN_mem (ch := ch) (k := k) (items_ne (by have := outerN_lt (fam xs) n (walkS (fam xs) n ch k).2; have := bit7 g.n7; omega) (g.outer h1 hne))
    obtain ⟨l1, l2, l3⟩ := g.learn hm
    refine ⟨l3, ?_⟩
    rw [walkS, pcN_or (g.lt7 _ h1) (by have := g.n7; omega) l2, h2]
theorem walk_ne {n : Nat} {xs : List Nat} (g : SpGood n xs) (ch : List Int) {k : Nat} (hk : k < n) : itemsN (outerN (fam xs) n (walkS (fam xs) n ch k).2) ≠ [] := by
  obtain ⟨h1, h2⟩ := walk_inv g ch k (by omega)
  have hne : (walkS (fam xs) n ch k).2 ≠ bit n - 1 := by intro e; rw [e, pcN_full g.n7] at h2; omega
  exact items_ne (by have := outerN_lt (fam xs) n (walkS (fam xs) n ch k).2; have := bit7 g.n7; omega) (g.outer h1 hne)
theorem walk_end {n : Nat} {xs : List Nat} (g : SpGood n xs) (ch : List Int) {k : Nat} (hk : k ≤ n) : (walkS (fam xs) n ch k).2 = bit n - 1 ↔ k = n := by
  obtain ⟨h1, h2⟩ := walk_inv g ch k hk
  constructor
  · intro e; rw [e, pcN_full g.n7] at h2; omega
  · rintro rfl; exact (pcN_lt g.n7 (g.lt _ h1)).2 h2
def sizesN (n : Nat) (xs : List Nat) : List Nat := (List.range (n + 1)).map fun k => (xs.filter fun x => pcN x == k).length
end Go.Proofs.Ytnnjehonbolliaa
namespace Go.Proofs.Ytnnjehonbolliaa
set_option linter.unusedSimpArgs false
set_option linter.unusedVariables false
set_option maxHeartbeats 4000000
open Go Go.Eng
attribute [local irreducible] WD RunD PreD Runs CallOK
def waysM (M : Nat → Bool) : Nat → Nat → Nat
  | 0, _ => 1
  | k + 1, a => ((itemsN (outerN M 7 a)).map fun i => waysM M k (nOr a (bit i))).sum
theorem sum_le_mul {l : List Nat} {c : Nat} (h : ∀ x ∈ l, x ≤ c) : l.sum ≤ l.length * c := by
  induction l with
  | nil => simp
  | cons a l ih =>
    have h1 := h a (by simp)
    have h2 := ih fun x hx => h x (by simp [hx])
    simp only [List.sum_cons, List.length_cons, Nat.succ_mul]
    omega
theorem waysM_le (M : Nat → Bool) : ∀ k a, waysM M k a ≤ 7 ^ k
  | 0, _ => by simp [waysM]
  | k + 1, a => by
    have h1 := sum_le_mul (l := (itemsN (outerN M 7 a)).map fun i => waysM M k (nOr a (bit i))) (c := 7 ^ k) (fun x hx => by
      obtain ⟨i, _, rfl⟩ := List.mem_map.1 hx
      exact waysM_le M k _)
    have h2 := items_len (outerN M 7 a)
    have h3 : (itemsN (outerN M 7 a)).length * 7 ^ k ≤ 7 * 7 ^ k := Nat.mul_le_mul_right _ h2
    rw [List.length_map] at h1
    rw [waysM, Nat.pow_succ, Nat.mul_comm (7 ^ k)]
    omega
def waysT (M : Nat → Bool) (k a j : Nat) : Nat := (((itemsN (outerN M 7 a)).take j).map fun i => waysM M k (nOr a (bit i))).sum
theorem waysT_le (M : Nat → Bool) (k a j : Nat) : waysT M k a j ≤ 7 * 7 ^ k := by
  have h1 := sum_le_mul (l := ((itemsN (outerN M 7 a)).take j).map fun i => waysM M k (nOr a (bit i))) (c := 7 ^ k) (fun x hx => by
    obtain ⟨i, _, rfl⟩ := List.mem_map.1 hx
    exact waysM_le M k _)
  have h2 := items_len (outerN M 7 a)
  refine Nat.le_trans h1 (Nat.mul_le_mul_right _ ?_)
  simp; omega
theorem waysT_zero (M : Nat → Bool) (k a : Nat) : waysT M k a 0 = 0 := by simp [waysT]
theorem waysT_succ (M : Nat → Bool) (k a j : Nat) (hj : j < (itemsN (outerN M 7 a)).length) : waysT M k a (j + 1) = waysT M k a j + waysM M k (nOr a (bit (itemsN (outerN M 7 a))[j])) := by
  unfold waysT
  rw [List.take_succ_eq_append_getElem hj, List.map_append, List.sum_append]
  simp
theorem waysT_all (M : Nat → Bool) (k a j : Nat) (hj : (itemsN (outerN M 7 a)).length ≤ j) : waysT M k a j = waysM M (k + 1) a := by
  unfold waysT
  rw [List.take_of_length_le hj, waysM]
theorem pow7 {k : Nat} (h : k ≤ 7) : 7 ^ k ≤ 823543 := Nat.pow_le_pow_right (by omega) h
def MemW (n : Nat) (xs : List Nat) (es : List (Value × Value)) : Prop := ∀ e ∈ es, ∃ a k : Nat, e.1 = .int .i64 (a : Int) ∧ a < 128 ∧ pcN a + k = n ∧ e.2 = .int .i64 ((waysM (fam xs) k a : Nat) : Int)
theorem MemW.nil (n : Nat) (xs : List Nat) : MemW n xs [] := fun e h => by cases h
theorem MemW.keys {n : Nat} {xs : List Nat} {es : List (Value × Value)} (h : MemW n xs es) : keysOK 1 es = true := by
  unfold keysOK
  rw [List.all_eq_true]
  intro e he
  obtain ⟨a, k, e1, _⟩ := h e he
  rw [e1]; rfl
theorem MemW.get {n : Nat} {xs : List Nat} {a k : Nat} (hk : pcN a + k = n) : ∀ {es : List (Value × Value)}, MemW n xs es → mapGet es (.int .i64 (a : Int)) = none ∨ mapGet es (.int .i64 (a : Int)) = some (.int .i64 ((waysM (fam xs) k a : Nat) : Int))
  | [], _ => .inl rfl
  | e :: es, h => by
    obtain ⟨a', k', e1, _, e3, e2⟩ := h e (by simp)
    rw [mapGet]
    by_cases hq : keyB e.1 (.int .i64 (a : Int)) = true
    · rw [if_pos hq]
      right
      rw [e1] at hq
      have : a' = a := by simpa [keyB] using hq
      subst this
      have : k' = k := by omega
      subst this
      rw [e2]
    · rw [if_neg hq]
      exact MemW.get hk (fun e he => h e (by simp [he]))
theorem MemW.put {n : Nat} {xs : List Nat} {a k : Nat} (ha : a < 128) (hk : pcN a + k = n) : ∀ {es : List (Value × Value)}, MemW n xs es → MemW n xs (mapPut es (.int .i64 (a : Int)) (.int .i64 ((waysM (fam xs) k a : Nat) : Int)))
  | [], _ => by
    intro e he
    simp only [mapPut, List.mem_singleton] at he
    subst he
    exact ⟨a, k, rfl, ha, hk, rfl⟩
  | e :: es, h => by
    rw [mapPut]
    split
    · intro q hq
      rcases List.mem_cons.1 hq with rfl | hq
      · exact ⟨a, k, rfl, ha, hk, rfl⟩
      · exact h q (by simp [hq])
    · intro q hq
      rcases List.mem_cons.1 hq with rfl | hq
      · exact h q (by simp)
      · exact MemW.put ha hk (fun e he => h e (by simp [he])) q hq
structure WaysSt (base p os om of_ og fo : Nat) (b : Value) (n : Nat) (xs : List Nat) (es : List (Value × Value)) (h : Hp) : Prop where
  ord : p < base ∧ os < base ∧ om < base ∧ of_ < base ∧ og < base ∧ fo < base ∧ base ≤ h.next
  ne : os ≠ p ∧ om ≠ p ∧ of_ ≠ p ∧ og ≠ p ∧ fo ≠ p
  gs : h.get os = .cells [.int .i64 n, b] true true 1
  gm : h.get om = .cells [.map (some p)] true true 1
  gf : h.get of_ = .cells [.pointer (some ⟨fo, 0, none⟩)] true true 1
  gg : h.get og = .cells [.func (.func 102) #[] #[.pointer (some ⟨os, 0, none⟩), .pointer (some ⟨om, 0, none⟩), .pointer (some ⟨of_, 0, none⟩), .pointer (some ⟨og, 0, none⟩)]] true true 1
  gp : h.get p = .map es
  fam : h.get fo = .cells (famC (fam xs)) true true 1
  ints : IntsF (fun o => o < base ∧ o ≠ p) h b (toN xs)
  mem : MemW n xs es
theorem WaysSt.keep {base p os om of_ og fo : Nat} {b : Value} {n : Nat} {xs : List Nat} {es : List (Value × Value)} {h h' : Hp} (k : WaysSt base p os om of_ og fo b n xs es h) (hk : Adds h h') : WaysSt base p os om of_ og fo b n xs es h' := by
  obtain ⟨o1, o2, o3, o4, o5, o6, o7⟩ := k.ord
  have n1 := hk.1.1
  have hg : ∀ o, o < base → h'.get o = h.get o := fun o ho => hk.1.2 o (by omega)
  exact ⟨⟨o1, o2, o3, o4, o5, o6, by omega⟩, k.ne, by rw [hg _ o2]; exact k.gs, by rw [hg _ o3]; exact k.gm, by rw [hg _ o4]; exact k.gf, by rw [hg _ o5]; exact k.gg, by rw [hg _ o1]; exact k.gp, by rw [hg _ o6]; exact k.fam, k.ints.keep hk.1, k.mem⟩
theorem WaysSt.put {base p os om of_ og fo : Nat} {b : Value} {n : Nat} {xs : List Nat} {es es' : List (Value × Value)} {h : Hp} (k : WaysSt base p os om of_ og fo b n xs es h) (hm : MemW n xs es') : WaysSt base p os om of_ og fo b n xs es' (h.put p (.map es')) := by
  obtain ⟨q1, q2, q3, q4, q5⟩ := k.ne
  exact ⟨by simpa using k.ord, k.ne, by simp [q1, k.gs], by simp [q2, k.gm], by simp [q3, k.gf], by simp [q4, k.gg], by simp, by simp [q5, k.fam], k.ints.same (h := h) (h' := h.put p (.map es')) ⟨Nat.le_refl _, fun x hx _ => by simp [hx.2]⟩, hm⟩
theorem ways1_ok {base p os om of_ og fo : Nat} {b : Value} {n : Nat} {xs : List Nat} (g : SpGood n xs) : ∀ (k a : Nat) (h : Hp) (es : List (Value × Value)), WaysSt base p os om of_ og fo b n xs es h → a ∈ xs → pcN a + k = n →
    ∃ v h', CallOK Try.prog 102 #[.int .i64 (a : Int), .pointer (some ⟨os, 0, none⟩), .pointer (some ⟨om, 0, none⟩), .pointer (some ⟨of_, 0, none⟩), .pointer (some ⟨og, 0, none⟩)] h v h' ∧ v = .int .i64 ((waysM (fam xs) k a : Nat) : Int) ∧ Wr (fun q => q = p) h h' ∧ ∃ es', WaysSt base p os om of_ og fo b n xs es' h' := by
  intro k
  induction k with
  | zero =>
    intro a h es hS ha hk
    have e : a = bit n - 1 := (pcN_lt g.n7 (g.lt a ha)).2 (by omega)
    have gs := hS.gs
    have hall := all_ok h (.agg #[.int .i64 n, b]) n (toN xs) (.mk hS.ints.ints) (by have := g.n7; omega)
    rw [← e] at hall
    refine callY_L (args := [.int .i64 (a : Int), .pointer (some ⟨os, 0, none⟩), .pointer (some ⟨om, 0, none⟩), .pointer (some ⟨of_, 0, none⟩), .pointer (some ⟨og, 0, none⟩)]) 46 _ [.tmp 6] Try.func102 rfl rfl rfl ?_
    try simp (disch := first | omega | (simp; done) | fail) [wrap64c, if_pos, if_neg, opAnd, opOr, opXor, opDiff, opShr, opBit, gs]
    refine callG_c (by simp) (by simp) ?ha (hall) ?_
    (case ha => simp (disch := first | omega | (simp; done) | fail) [wrap64c, if_pos, if_neg, opAnd, opOr, opXor, opDiff, opShr, opBit, gs])
    try simp (disch := first | omega | (simp; done) | fail) [wrap64c, if_pos, if_neg, opAnd, opOr, opXor, opDiff, opShr, opBit, gs]
    exact done_ret rfl ⟨rfl, Wr.refl _ _, es, hS⟩
  | succ k ih =>
    intro a h es hS ha hk
    have hb := bit_pos n
    have hn7 := g.n7
    have e : ¬ a = bit n - 1 := fun e => by rw [e, pcN_full g.n7] at hk; omega
    have e' : ((a : Int) == ((bit n - 1 : Nat) : Int)) = false := by simp; omega
    have gs := hS.gs
    have gm := hS.gm
    have gf := hS.gf
    have gp := hS.gp
    have hall := all_ok h (.agg #[.int .i64 n, b]) n (toN xs) (.mk hS.ints.ints) (by omega)
    obtain ⟨w, hw⟩ : ∃ w, w = bit n - 1 := ⟨_, rfl⟩
    rw [← hw] at hall e'
    have hky : keysOK 1 es = true := hS.mem.keys
    have hkk : isKey 1 (.int .i64 (a : Int)) = true := rfl
    have ha128 : a < 128 := g.lt7 a ha
    obtain ⟨o1, o2, o3, o4, o5, o6, o7⟩ := hS.ord
    obtain ⟨q1, q2, q3, q4, q5⟩ := hS.ne
    refine callY_L (args := [.int .i64 (a : Int), .pointer (some ⟨os, 0, none⟩), .pointer (some ⟨om, 0, none⟩), .pointer (some ⟨of_, 0, none⟩), .pointer (some ⟨og, 0, none⟩)]) 46 _ [.tmp 6] Try.func102 rfl rfl rfl ?_
    try simp (disch := first | omega | (simp; done) | fail) [wrap64c, if_pos, if_neg, opAnd, opOr, opXor, opDiff, opShr, opBit, e', gs, gm, gf, gp, hky, hkk]
    refine callG_c (by simp) (by simp) ?ha (hall) ?_
    (case ha => simp (disch := first | omega | (simp; done) | fail) [wrap64c, if_pos, if_neg, opAnd, opOr, opXor, opDiff, opShr, opBit, e', gs, gm, gf, gp, hky, hkk])
    rcases hS.mem.get hk with hg | hg
    case inr =>
      have hg := hg
      try simp (disch := first | omega | (simp; done) | fail) [wrap64c, if_pos, if_neg, opAnd, opOr, opXor, opDiff, opShr, opBit, e', gs, gm, gf, gp, hky, hkk, hg]
      exact done_ret rfl ⟨rfl, Wr.refl _ _, es, hS⟩
    have hg := hg
    try simp (disch := first | omega | (simp; done) | fail) [wrap64c, if_pos, if_neg, opAnd, opOr, opXor, opDiff, opShr, opBit, e', gs, gm, gf, gp, hky, hkk, hg]
    refine callG_c (by simp) (by simp) ?ha (imOuter_ok h fo (fam xs) _ _ _ a (by omega) hS.fam ha128) ?_
    (case ha => simp (disch := first | omega | (simp; done) | fail) [wrap64c, if_pos, if_neg, opAnd, opOr, opXor, opDiff, opShr, opBit, e', gs, gm, gf, gp, hky, hkk, hg])
    obtain ⟨om', hom⟩ : ∃ m, m = outerN (fam xs) 7 a := ⟨_, rfl⟩
    have hom128 : om' < 128 := by rw [hom]; exact outerN_lt _ 7 _
    rw [← hom]
    obtain ⟨v1, h1, hc1, ha1, hi1, _⟩ := items_ok h om' (by omega)
    have n1 := ha1.1.1
    have hS1 := hS.keep ha1
    have hln := toN_length (itemsN om')
    have lM := hi1.ints.lenD
    have hil := items_len om'
    have hgt := toN_get (itemsN om')
    try simp (disch := first | omega | (simp; done) | fail) [wrap64c, if_pos, if_neg, opAnd, opOr, opXor, opDiff, opShr, opBit, e', gs, gm, gf, gp, hky, hkk, hg, lM, hgt]
    refine callG_c (by simp) (by simp) ?ha (hc1) ?_
    (case ha => simp (disch := first | omega | (simp; done) | fail) [wrap64c, if_pos, if_neg, opAnd, opOr, opXor, opDiff, opShr, opBit, e', gs, gm, gf, gp, hky, hkk, hg, lM, hgt])
    try simp (disch := first | omega | (simp; done) | fail) [wrap64c, if_pos, if_neg, opAnd, opOr, opXor, opDiff, opShr, opBit, e', gs, gm, gf, gp, hky, hkk, hg, lM, hgt]
    refine WD_loopC [0, 2, 4, 27, 28] (fun m tm h' => ∃ j es1, m = (itemsN om').length - j ∧ tm 9 = .int .i64 ((waysT (fam xs) k a j : Nat) : Int) ∧ tm 29 = .int .i64 (j : Int) ∧ (j ≤ (itemsN om').length) ∧ (Wr (fun q => q = p) h1 h') ∧ (WaysSt base p os om of_ og fo b n xs es1 h')) _ ⟨0, es, rfl, (by simp [waysT_zero]), (by simp (disch := first | omega | (simp; done) | fail) [wrap64c, if_pos, if_neg, opAnd, opOr, opXor, opDiff, opShr, opBit, e', gs, gm, gf, gp, hky, hkk, hg, lM, hgt]), (by first | omega | assumption | (simp (disch := first | omega | (simp; done) | fail) [wrap64c, if_pos, if_neg, opAnd, opOr, opXor, opDiff, opShr, opBit, e', gs, gm, gf, gp, hky, hkk, hg, lM, hgt] <;> omega)), (Wr.refl _ _), hS1⟩ ?_
    rintro m tm h' hFr ⟨j, es1, rfl, e9, e29, hj, hW, hSS⟩
    simp only [FrameL] at hFr
    obtain ⟨f0_0, f2_0, f4_0, f27_0, f28_0, -⟩ := hFr
    try simp (disch := first | omega | (simp; done) | fail) [wrap64c, if_pos, if_neg, opAnd, opOr, opXor, opDiff, opShr, opBit, e', gs, gm, gf, gp, hky, hkk, hg, lM, hgt] at f0_0 f2_0 f4_0 f27_0 f28_0
    have e0 := f0_0
    have e2 := f2_0
    have e4 := f4_0
    have e27 := f27_0
    have e28 := f28_0
    have hu := hW.upd
    have n2 := hu.1
    have hv2 := (hi1.same (hu.same fun x hx hx' => by unfold Btw at hx; omega)).ints
    have gg' := hSS.gg
    have hbd := waysT_le (fam xs) k a j
    have hpw := pow7 (k := k) (by omega)
    by_cases hlt : j < (itemsN om').length
    · obtain ⟨o_x, i_x, c_x, cs_x, own_x, ex_x, es_x, q_x, b_x, g_x, l_x, r_x⟩ := hv2.open ((by omega))
      have z_x : ∀ h2 : i_x < cs_x.length, cs_x[i_x] = _ := fun h2 => r_x 0 ((by omega)) h2
      obtain ⟨i, hi⟩ : ∃ i, i = (itemsN om')[j] := ⟨_, rfl⟩
      have him : i ∈ itemsN (outerN (fam xs) n a) := by rw [← g.outer7, ← hom, hi]; exact List.getElem_mem hlt
      obtain ⟨hin, hit, hix⟩ := g.learn him
      have hi' := hi.symm
      have hi7 : i < 7 := by omega
      have hb7 := bit_lt7 hi7
      have hpc := pcN_or ha128 hi7 hit
      try simp (disch := first | omega | (simp; done) | fail) [wrap64c, if_pos, if_neg, opAnd, opOr, opXor, opDiff, opShr, opBit, e', gs, gm, gf, gp, hky, hkk, hg, lM, hgt, e0, e2, e4, e9, e27, e28, e29, gg', hlt, q_x, g_x, l_x, r_x, z_x, hi', hi7]
      refine WD_chainC rfl (by kernel_rfl) (by kernel_rfl) ?_
      try simp (disch := first | omega | (simp; done) | fail) [wrap64c, if_pos, if_neg, opAnd, opOr, opXor, opDiff, opShr, opBit, e', gs, gm, gf, gp, hky, hkk, hg, lM, hgt, e0, e2, e4, e9, e27, e28, e29, gg', hlt, q_x, g_x, l_x, r_x, z_x, hi', hi7]
      obtain ⟨_, h3, hc3, rfl, W3, es3, S3⟩ := ih (nOr a (bit i)) h' es1 hSS hix (by omega)
      have hwl := waysM_le (fam xs) k (nOr a (bit i))
      obtain ⟨w1, hw1⟩ : ∃ s, s = waysM (fam xs) k (nOr a (bit i)) := ⟨_, rfl⟩
      rw [← hw1] at hc3 hwl
      have n3 := W3.upd.1
      have hts := waysT_succ (fam xs) k a j (by rw [← hom]; exact hlt)
      have hsub : (itemsN (outerN (fam xs) 7 a))[j]'(by rw [← hom]; exact hlt) = i := by rw [hi]; congr 2; rw [hom]
      rw [hsub, ← hw1] at hts
      refine callG_f (fst := #[]) (cap := #[.pointer (some ⟨os, 0, none⟩), .pointer (some ⟨om, 0, none⟩), .pointer (some ⟨of_, 0, none⟩), .pointer (some ⟨og, 0, none⟩)]) (by simp) (by simp) ?hf ?hk ?ha (hc3) ?_
      (case hf => simp (disch := first | omega | (simp; done) | fail) [wrap64c, if_pos, if_neg, opAnd, opOr, opXor, opDiff, opShr, opBit, e', gs, gm, gf, gp, hky, hkk, hg, lM, hgt, e0, e2, e4, e9, e27, e28, e29, gg', hlt, q_x, g_x, l_x, r_x, z_x, hi', hi7]; try rfl)
      (case hk => simp (disch := first | omega | (simp; done) | fail) [wrap64c, if_pos, if_neg, opAnd, opOr, opXor, opDiff, opShr, opBit, e', gs, gm, gf, gp, hky, hkk, hg, lM, hgt, e0, e2, e4, e9, e27, e28, e29, gg', hlt, q_x, g_x, l_x, r_x, z_x, hi', hi7])
      (case ha => simp (disch := first | omega | (simp; done) | fail) [wrap64c, if_pos, if_neg, opAnd, opOr, opXor, opDiff, opShr, opBit, e', gs, gm, gf, gp, hky, hkk, hg, lM, hgt, e0, e2, e4, e9, e27, e28, e29, gg', hlt, q_x, g_x, l_x, r_x, z_x, hi', hi7])
      try simp (disch := first | omega | (simp; done) | fail) [wrap64c, if_pos, if_neg, opAnd, opOr, opXor, opDiff, opShr, opBit, e', gs, gm, gf, gp, hky, hkk, hg, lM, hgt, e0, e2, e4, e9, e27, e28, e29, gg', hlt, q_x, g_x, l_x, r_x, z_x, hi', hi7]
      refine loopK_next _ ?hm ?hf ⟨j + 1, es3, rfl, (by simp [hts]), (by simp (disch := first | omega | (simp; done) | fail) [wrap64c, if_pos, if_neg, opAnd, opOr, opXor, opDiff, opShr, opBit, e', gs, gm, gf, gp, hky, hkk, hg, lM, hgt, e0, e2, e4, e9, e27, e28, e29, gg', hlt, q_x, g_x, l_x, r_x, z_x, hi', hi7] <;> omega), (by first | omega | assumption | (simp (disch := first | omega | (simp; done) | fail) [wrap64c, if_pos, if_neg, opAnd, opOr, opXor, opDiff, opShr, opBit, e', gs, gm, gf, gp, hky, hkk, hg, lM, hgt, e0, e2, e4, e9, e27, e28, e29, gg', hlt, q_x, g_x, l_x, r_x, z_x, hi', hi7] <;> omega)), (hW.trans W3), S3⟩
      (case hm => first | omega | (simp; omega))
      (case hf => simp [FrameL, e', gs, gm, gf, gp, hky, hkk, hg, lM, hgt, e0, e2, e4, e9, e27, e28, e29, gg', hlt, q_x, g_x, l_x, r_x, z_x, hi', hi7, f0_0, f2_0, f4_0, f27_0, f28_0])
    · have hta := waysT_all (fam xs) k a j (by rw [← hom]; omega)
      have hm := hSS.mem.put (k := k + 1) ha128 hk
      rw [← hta] at hm
      have gm' := hSS.gm
      have gp' := hSS.gp
      have hky1 : keysOK 1 es1 = true := hSS.mem.keys
      obtain ⟨t1, ht1⟩ : ∃ t, t = waysT (fam xs) k a j := ⟨_, rfl⟩
      rw [← ht1] at hm e9 hta
      have e9' := e9
      try simp (disch := first | omega | (simp; done) | fail) [wrap64c, if_pos, if_neg, opAnd, opOr, opXor, opDiff, opShr, opBit, e', gs, gm, gf, gp, hky, hkk, hg, lM, hgt, e0, e2, e4, e9, e27, e28, e29, gg', hlt, gm', gp', hky1, e9']
      exact done_ret rfl ⟨by rw [hta]; simp, ((Wr.of_adds ha1).trans hW).put (o := p) rfl (fun _ => rfl), _, hSS.put hm⟩
theorem ways_ok (h : Hp) (v : Value) (n : Nat) (xs : List Nat) (a k : Nat) (hv : Space h v n (toN xs)) (g : SpGood n xs) (ha : a ∈ xs) (hk : pcN a + k = n) :
    CallOK Try.prog 85 #[v, .int .i64 (a : Int)] h (.int .i64 ((waysM (fam xs) k a : Nat) : Int)) h := by
  have hv0 := hv
  obtain ⟨b, rfl, hX⟩ := hv
  refine callY_P 15 _ [.tmp 4] Try.func85 rfl rfl rfl (by first | rfl | simp) ?_
  have ntb := hX.nt
  have csb := hX.cs
  refine WD_first ?_
  try simp (disch := first | omega | (simp; done) | fail) [wrap64c, if_pos, if_neg, opAnd, opOr, opXor, opDiff, opShr, opBit, ntb, csb]
  refine stopK_heap fun h0 q_h0 => ?_
  refine stopK_go ?_
  have k0 : Adds h h0 := by rw [q_h0]; exact (by first | exact aK | exact kK)
  have n0 : h0.next = h.next + 1 := by simp [q_h0]
  have gs0 : h0.get h.next = .cells [.int .i64 n, b] true true 1 := by simp [q_h0]
  try simp (disch := first | omega | (simp; done) | fail) [wrap64c, if_pos, if_neg, opAnd, opOr, opXor, opDiff, opShr, opBit, ntb, csb, gs0]
  obtain ⟨_, h1, hc1, o, rfl, ha1, ho1, ho2, go1⟩ := family_ok h0 _ n xs (hv0.keep k0.1) g.lt7 (by have := g.len7; omega)
  have n1 := ha1.1.1
  have gs1 : h1.get h.next = .cells [.int .i64 n, b] true true 1 := by rw [ha1.1.2 _ (by omega)]; exact gs0
  have hp1 : ∀ x y : Value, putCells [x] 0 [y] = [y] := fun _ _ => rfl
  refine callG_c (by simp) (by simp) ?ha (hc1) ?_
  (case ha => simp (disch := first | omega | (simp; done) | fail) [wrap64c, if_pos, if_neg, opAnd, opOr, opXor, opDiff, opShr, opBit, ntb, csb, gs0, hp1])
  try simp (disch := first | omega | (simp; done) | fail) [wrap64c, if_pos, if_neg, opAnd, opOr, opXor, opDiff, opShr, opBit, ntb, csb, gs0, hp1]
  first | refine WY_heap fun h2 q_h2 => ?_ | refine callG_heap fun h2 q_h2 => ?_ | refine callP_heap fun h2 q_h2 => ?_ | refine callS_heap fun h2 q_h2 => ?_ | refine RY_heap fun h2 q_h2 => ?_ | refine PY_heap fun h2 q_h2 => ?_ | refine SY_heap fun h2 q_h2 => ?_ | refine doneY_heap fun h2 q_h2 => ?_ | refine loopK_heap fun h2 q_h2 => ?_ | refine thenY_heap fun h2 q_h2 => ?_ | refine thenM_heap fun h2 q_h2 => ?_
  have k2 : Adds h1 h2 := by rw [q_h2]; exact (by first | exact aK | exact kK)
  have n2 : h2.next = h1.next + 4 := by simp [q_h2]
  have hX2 : Ints h2 b (toN xs) := (hX.keep k0.1).keep (ha1.1.trans k2.1)
  have ob : h1.next + 4 ≤ h2.next := by omega
  have hS : WaysSt (h1.next + 4) h1.next h.next (h1.next + 2) (h1.next + 1) (h1.next + 3) o b n xs [] h2 := by
    have e13 : ¬ h1.next = h1.next + 1 + 2 := by omega
    refine ⟨by omega, by omega, ?_, by simp [q_h2], by simp [q_h2], by simp [q_h2], by simp [q_h2, e13], ?_, ?_, .nil _ _⟩
    · rw [k2.1.2 _ (by omega)]; exact gs1
    · rw [k2.1.2 _ (by omega)]; exact go1
    · exact ((hX.keep k0.1).old.keep (ha1.1.trans k2.1)).sub fun x hx => by omega
  obtain ⟨_, h3, hc3, rfl, W3, _⟩ := ways1_ok g k a h2 [] hS ha hk
  have kk : Keeps h h3 := (((k0.trans ha1).trans k2).wr W3 (fun q e => by omega)).1
  refine callG_f (fst := #[]) (cap := #[.pointer (some ⟨h.next, 0, none⟩), .pointer (some ⟨h1.next + 2, 0, none⟩), .pointer (some ⟨h1.next + 1, 0, none⟩), .pointer (some ⟨h1.next + 3, 0, none⟩)]) (by simp) (by simp) ?hf ?hk ?ha (hc3) ?_
  (case hf => simp (disch := first | omega | (simp; done) | fail) [wrap64c, if_pos, if_neg, opAnd, opOr, opXor, opDiff, opShr, opBit, ntb, csb, gs0, hp1]; try rfl)
  (case hk => simp (disch := first | omega | (simp; done) | fail) [wrap64c, if_pos, if_neg, opAnd, opOr, opXor, opDiff, opShr, opBit, ntb, csb, gs0, hp1])
  (case ha => simp (disch := first | omega | (simp; done) | fail) [wrap64c, if_pos, if_neg, opAnd, opOr, opXor, opDiff, opShr, opBit, ntb, csb, gs0, hp1])
  try simp (disch := first | omega | (simp; done) | fail) [wrap64c, if_pos, if_neg, opAnd, opOr, opXor, opDiff, opShr, opBit, ntb, csb, gs0, hp1]
  exact done_ret rfl (by simp [kk])
noncomputable def cwN (N : Int) (X : List Int) : Int := if spB N X = true then ((waysM (fam (X.map Int.toNat)) N.toNat 0 : Nat) : Int) else 0
theorem toN_back (xs : List Nat) : (toN xs).map Int.toNat = xs := by
  unfold toN
  rw [List.map_map]
  exact (List.map_congr_left fun a _ => Int.toNat_natCast a).trans (List.map_id' xs)
theorem cwN_eq {n : Nat} {xs : List Nat} (g : SpGood n xs) : cwN n (toN xs) = ((waysM (fam xs) n 0 : Nat) : Int) := by
  rw [cwN, if_pos (spB_of g), toN_back]; rfl
theorem imCountWords_ok (h : Hp) (v : Value) (N : Int) (X : List Int) (hv : Space h v N X) (hl : X.length < 2 ^ 40) : CallOK Try.prog 39 #[v] h (.tuple #[.int .i64 (cwN N X), .bool (spB N X)]) h := by
  have hv0 := hv
  obtain ⟨b, rfl, hX⟩ := hv
  refine callY_P 9 _ [.tmp 2, .tmp 3] Try.func39 rfl rfl rfl (by first | rfl | simp) ?_
  have ntb := hX.nt
  have csb := hX.cs
  refine WD_first ?_
  try simp (disch := first | omega | (simp; done) | fail) [wrap64c, if_pos, if_neg, opAnd, opOr, opXor, opDiff, opShr, opBit, ntb, csb]
  refine stopK_heap fun h0 q_h0 => ?_
  refine stopK_go ?_
  have k0 : Adds h h0 := by rw [q_h0]; exact (by first | exact aK | exact kK)
  have gs0 : h0.get h.next = .cells [.int .i64 N, b] true true 1 := by simp [q_h0]
  try simp (disch := first | omega | (simp; done) | fail) [wrap64c, if_pos, if_neg, opAnd, opOr, opXor, opDiff, opShr, opBit, ntb, csb, gs0]
  refine callG_c (by simp) (by simp) ?ha (isSpace_ok h0 _ N X (hv0.keep k0.1) hl) ?_
  (case ha => simp (disch := first | omega | (simp; done) | fail) [wrap64c, if_pos, if_neg, opAnd, opOr, opXor, opDiff, opShr, opBit, ntb, csb, gs0])
  by_cases hb : spB N X = true
  · have hb' := hb
    obtain ⟨n, xs, rfl, rfl, g⟩ := spB_true hb
    have hcw := cwN_eq g
    try simp (disch := first | omega | (simp; done) | fail) [wrap64c, if_pos, if_neg, opAnd, opOr, opXor, opDiff, opShr, opBit, ntb, csb, gs0, hb']
    refine callG_c (by simp) (by simp) ?ha (ways_ok h0 _ n xs 0 n (hv0.keep k0.1) g g.zero (by simp [pcN, pcF_zero])) ?_
    (case ha => simp (disch := first | omega | (simp; done) | fail) [wrap64c, if_pos, if_neg, opAnd, opOr, opXor, opDiff, opShr, opBit, ntb, csb, gs0, hb'])
    try simp (disch := first | omega | (simp; done) | fail) [wrap64c, if_pos, if_neg, opAnd, opOr, opXor, opDiff, opShr, opBit, ntb, csb, gs0, hb']
    exact done_ret rfl (by simp [k0.1, hcw, hb])
  · have hb' : spB N X = false := by simpa using hb
    try simp (disch := first | omega | (simp; done) | fail) [wrap64c, if_pos, if_neg, opAnd, opOr, opXor, opDiff, opShr, opBit, ntb, csb, gs0, hb']
    exact done_ret rfl (by simp [k0.1, cwN, hb'])
end Go.Proofs.Ytnnjehonbolliaa
namespace Go.Proofs.Ytnnjehonbolliaa
set_option linter.unusedSimpArgs false
set_option linter.unusedVariables false
set_option maxHeartbeats 4000000
open Go Go.Eng
variable {L : List (List Int)} {A x B y C : List Int}
theorem mem_le_sum : ∀ {l : List Int}, (∀ v ∈ l, 0 ≤ v) → ∀ v ∈ l, v ≤ l.sum
  | [], _, v, h => by cases h
  | p :: l, hn, v, h => by
    have h0 := hn p (by simp)
    have h1 : 0 ≤ l.sum := by
      exact sum_nn fun v hv => hn v (by simp [hv])
    rcases List.mem_cons.1 h with rfl | h
    · simp; omega
    · have := mem_le_sum (fun v hv => hn v (by simp [hv])) v h
      simp; omega
end Go.Proofs.Ytnnjehonbolliaa
namespace Go.Proofs.Ytnnjehonbolliaa
set_option linter.unusedSimpArgs false
set_option linter.unusedVariables false
set_option maxHeartbeats 4000000
open Go Go.Eng
structure RS (L : List (List Int)) (A F E : List Int) (R : Nat) : Prop where
  sh : Shape L A.length
  ok : Ok L A
  f : FinR L A F E R
  r1 : 1 ≤ R
  r7 : R ≤ 7
variable {L : List (List Int)} {A F E x y z B C : List Int} {R : Nat}
theorem RS.st (r : RS L A F E R) : startN F A.length = R := by
  have hl := r.f.rn.len.2
  have hnn : ∀ y ∈ F, 0 ≤ y := fun y hy => by
    obtain ⟨i, hi, rfl⟩ := List.getElem_of_mem hy
    have := r.f.rn.nn i
    rwa [getD_at hi] at this
  have := startN_sum hnn A.length (by omega)
  rw [List.take_of_length_le (by omega), r.f.sum] at this
  omega
theorem RS.le (r : RS L A F E R) (h : Rn L A x B) : ∀ i, 0 ≤ x.getD i 0 ∧ x.getD i 0 ≤ F.getD i 0 := fun i => ⟨h.nn i, r.f.rn.le r.f.last h r.sh i⟩
theorem shN_bit (a s j : Nat) : (shN a s).testBit j = (decide (s ≤ j) && decide (j < s + a)) := by
  unfold shN
  rw [Nat.testBit_shiftLeft, full_bit]
  by_cases h : s ≤ j
  · simp only [ge_iff_le, h, decide_true, Bool.true_and]
    congr 1
    simp only [eq_iff_iff]
    omega
  · simp [h]
theorem setN_bit (F x : List Int) : ∀ k j, (setN F x k).testBit j = true ↔ ∃ i, i < k ∧ startN F i ≤ j ∧ j < startN F i + (x.getD i 0).toNat
  | 0, j => by simp [setN]
  | k + 1, j => by
    rw [setN, nOr_bit, Bool.or_eq_true, setN_bit F x k j, shN_bit]
    simp only [Bool.and_eq_true, decide_eq_true_eq]
    constructor
    · rintro (⟨i, h1, h2⟩ | h)
      · exact ⟨i, by omega, h2⟩
      · exact ⟨k, by omega, h⟩
    · rintro ⟨i, h1, h2⟩
      by_cases e : i = k
      · subst e; exact .inr h2
      · exact .inl ⟨i, by omega, h2⟩
theorem setN_at (hx : ∀ i, 0 ≤ x.getD i 0 ∧ x.getD i 0 ≤ F.getD i 0) {m i t : Nat} (hi : i < m) (ht : t < (F.getD i 0).toNat) : (setN F x m).testBit (startN F i + t) = decide (t < (x.getD i 0).toNat) := by
  by_cases h : t < (x.getD i 0).toNat
  · rw [decide_eq_true h, setN_bit]
    exact ⟨i, hi, by omega, by omega⟩
  · rw [decide_eq_false h]
    by_cases hb : (setN F x m).testBit (startN F i + t) = true
    · exfalso
      obtain ⟨i', h1, h2, h3⟩ := (setN_bit F x m _).1 hb
      have hx' := hx i'
      rcases Nat.lt_trichotomy i i' with hlt | rfl | hlt
      · have := startN_mono F (show i + 1 ≤ i' by omega)
        rw [startN_succ] at this
        omega
      · omega
      · have := startN_mono F (show i' + 1 ≤ i by omega)
        rw [startN_succ] at this
        omega
    · simpa using hb
theorem place_ex (F : List Int) : ∀ m j, j < startN F m → ∃ i t, i < m ∧ t < (F.getD i 0).toNat ∧ j = startN F i + t ∧ (placesN F m).getD j 0 = (i : Int)
  | 0, j, h => by simp [startN, placesN] at h
  | m + 1, j, h => by
    rw [placesN_succ]
    rw [startN_succ] at h
    by_cases hj : j < startN F m
    · obtain ⟨i, t, h1, h2, h3, h4⟩ := place_ex F m j hj
      refine ⟨i, t, by omega, h2, h3, ?_⟩
      rw [List.getD_eq_getElem?_getD, List.getElem?_append_left (by exact hj), ← List.getD_eq_getElem?_getD, h4]
    · refine ⟨m, j - startN F m, by omega, by omega, by omega, ?_⟩
      rw [List.getD_eq_getElem?_getD, List.getElem?_append_right (by show startN F m ≤ j; omega), List.getElem?_replicate]
      rw [if_pos (by show j - startN F m < _; omega)]
      rfl
theorem set_step (hx : ∀ i, 0 ≤ x.getD i 0 ∧ x.getD i 0 ≤ F.getD i 0) (hy : ∀ i, 0 ≤ y.getD i 0 ∧ y.getD i 0 ≤ F.getD i 0) {m p t : Nat} (hxm : x.length = m) (hym : y.length = m) (hp : p < m) (ht : t < (F.getD p 0).toNat) (hn : (setN F x m).testBit (startN F p + t) = false)
    (h : setN F y m = nOr (setN F x m) (bit (startN F p + t))) : (t : Int) = x.getD p 0 ∧ y = x.set p (x.getD p 0 + 1) := by
  have key : ∀ i t', i < m → t' < (F.getD i 0).toNat → decide (t' < (y.getD i 0).toNat) = (decide (t' < (x.getD i 0).toNat) || decide (i = p ∧ t' = t)) := by
    intro i t' hi ht'
    rw [← setN_at hy hi ht', ← setN_at hx hi ht', h, nOr_bit, bit_bit]
    congr 1
    have : (startN F p + t = startN F i + t') ↔ (i = p ∧ t' = t) := by
      constructor
      · intro e
        have : i = p := by
          rcases Nat.lt_trichotomy i p with hlt | e' | hlt
          · have := startN_mono F (show i + 1 ≤ p by omega)
            rw [startN_succ] at this; omega
          · exact e'
          · have := startN_mono F (show p + 1 ≤ i by omega)
            rw [startN_succ] at this; omega
        subst this
        exact ⟨rfl, by omega⟩
      · rintro ⟨rfl, rfl⟩; rfl
    simp only [this]
  have kp : ∀ i t', i < m → t' < (F.getD i 0).toNat → (t' < (y.getD i 0).toNat ↔ (t' < (x.getD i 0).toNat ∨ (i = p ∧ t' = t))) := by
    intro i t' hi ht'
    have := key i t' hi ht'
    rw [Bool.eq_iff_iff, Bool.or_eq_true, decide_eq_true_iff, decide_eq_true_iff, decide_eq_true_iff] at this
    exact this
  rw [setN_at hx hp ht] at hn
  have hn' : ¬ t < (x.getD p 0).toNat := of_decide_eq_false hn
  have hyp : (y.getD p 0).toNat = (x.getD p 0).toNat + 1 ∧ t = (x.getD p 0).toNat := by
    have a := hx p
    have b := hy p
    have k1 := kp p t hp ht
    have k2 := kp p (x.getD p 0).toNat hp
    have k3 := kp p ((x.getD p 0).toNat + 1) hp
    omega
  have hot : ∀ i, i < m → i ≠ p → y.getD i 0 = x.getD i 0 := by
    intro i hi hne
    have a := hx i
    have b := hy i
    have k2 := kp i (y.getD i 0).toNat hi
    have k3 := kp i (x.getD i 0).toNat hi
    omega
  have a := hx p
  have b := hy p
  refine ⟨by omega, ext_getD (by simp [hxm, hym]) fun i hi => ?_⟩
  by_cases e : i = p
  · subst e
    simp only [List.getD_eq_getElem?_getD, List.getElem?_set_self (show i < x.length by omega), Option.getD_some]
    simp only [List.getD_eq_getElem?_getD] at hyp a b
    omega
  · rw [hot i (by omega) e]
    simp [List.getD_eq_getElem?_getD, List.getElem?_set_ne (fun q => e q.symm)]
theorem subL_self {l : List Int} : subL l l = List.replicate l.length 0 := by
  refine ext_getD (by simp [subL]) fun i hi => ?_
  rw [subL_getD rfl]
  simp [List.getD_eq_getElem?_getD, List.getElem?_replicate]
  split <;> simp
theorem RS.can (r : RS L A F E R) (h : Rn L A x B) (h' : Rn L A y C) {p : Nat} (hp : p < A.length) (e : y = x.set p (x.getD p 0 + 1)) : canB L B p = true := by
  have lx := h.len.2
  have hle : ∀ i, x.getD i 0 ≤ y.getD i 0 := fun i => by
    rw [e]
    by_cases q : p = i
    · subst q; simp [List.getD_eq_getElem?_getD, show p < x.length by omega]; omega
    · simp [List.getD_eq_getElem?_getD, List.getElem?_set_ne q]
  have d1 := h.due y h'.len.2 hle
  have d2 := h'.due y h'.len.2 (fun i => Int.le_refl _)
  by_cases hc : canB L B p = true
  · exact hc
  · exfalso
    have hm : Stuck L B (subL y x) := by
      intro i hi hci
      by_cases q : i = p
      · subst q; exact absurd hci hc
      · rw [subL_getD (by rw [h'.len.2, lx]), e]
        simp [List.getD_eq_getElem?_getD, List.getElem?_set_ne (fun e => q e.symm)]
    have hm' : Stuck L C (subL y y) := by
      intro i hi hci
      rw [subL_getD rfl]; omega
    have e2 := due_unique d1 d2 r.sh h'.len.2 hm hm'
    have e3 : (subL y x).getD p 0 = (subL y y).getD p 0 := by rw [e2]
    rw [subL_getD (by rw [h'.len.2, lx]), subL_getD rfl] at e3
    have e4 : y.getD p 0 = x.getD p 0 + 1 := by rw [e, List.getD_eq_getElem?_getD, List.getElem?_set_self (by omega)]; rfl
    omega
theorem Rn.stepD (h : Rn L A x B) {p : Nat} (hp : p < A.length) (hc : canB L B p = true) : Rn L A (x.set p (x.getD p 0 + 1)) (moveA L B p) := by
  have h1 := h.len
  have := Rn.step h (by omega) hc (show p < x.length by omega)
  rwa [getD_at (show p < x.length by omega)]
theorem Due.rn {l k : List Int} (h : Due L A l B k) (hn : l.length = A.length) : Rn L A (subL l k) B := by
  induction h with
  | refl => rw [subL_self, hn]; exact .zero
  | @step B k i hd hi hc hk h0 ih =>
    have hl := hd.len
    have h1 := Rn.stepD (ih) (p := i) (by omega) hc
    have : subL l (k.set i (k[i] - 1)) = (subL l k).set i ((subL l k).getD i 0 + 1) := by
      refine ext_getD (by simp [subL]) fun j hj => ?_
      rw [subL_getD (by simp [hl])]
      by_cases q : i = j
      · subst q
        have hs : i < (subL l k).length := by simp [subL]; omega
        have e1 := subL_getD (l := l) (x := k) hl.2.symm i
        simp [List.getD_eq_getElem?_getD, hk, hs] at e1 ⊢
        omega
      · have e1 := subL_getD (l := l) (x := k) hl.2.symm j
        simp [List.getD_eq_getElem?_getD, List.getElem?_set_ne q] at e1 ⊢
        omega
    rw [this]; exact h1
theorem stuck_ex {l : List Int} : ∀ (n : Nat) {B k : List Int}, Due L A l B k → l.length = A.length → (∀ v ∈ k, 0 ≤ v) → k.sum ≤ n → ∃ B' k', Due L A l B' k' ∧ Stuck L B' k'
  | n, B, k, h, hn, hnn, hsum => by
    by_cases hs : Stuck L B k
    · exact ⟨B, k, h, hs⟩
    · simp only [Stuck, Classical.not_forall] at hs
      obtain ⟨i, hi, hc, h0⟩ := hs
      have hl := h.len
      have hk : i < k.length := by omega
      rw [getD_at hk] at h0
      have h2 := Due.step h hi hc hk (by omega)
      have h3 := sum_set hk (k[i] - 1)
      have h4 := mem_le_sum hnn _ (List.getElem_mem hk)
      cases n with
      | zero => omega
      | succ n =>
        exact stuck_ex n h2 hn (fun v hv => by
          rcases List.mem_or_eq_of_mem_set hv with h | h
          · exact hnn v h
          · omega) (by omega)
def maxLL (a b : List Int) : List Int := List.zipWith max a b
theorem maxLL_getD {a b : List Int} (h : a.length = b.length) (i : Nat) : (maxLL a b).getD i 0 = max (a.getD i 0) (b.getD i 0) := by
  simp only [maxLL, List.getD_eq_getElem?_getD, List.getElem?_zipWith]
  by_cases hi : i < a.length
  · simp [hi, show i < b.length by omega]
  · simp [hi, show ¬ i < b.length by omega]
theorem all_getD {l : List Int} {P : Int → Prop} (h : ∀ i, i < l.length → P (l.getD i 0)) : ∀ v ∈ l, P v := fun v hv => by
  obtain ⟨i, hi, rfl⟩ := List.getElem_of_mem hv
  have := h i hi
  rwa [getD_at hi] at this
theorem RS.join (r : RS L A F E R) (h : Rn L A x B) (h' : Rn L A y C) : ∃ D, Rn L A (maxLL x y) D := by
  have lx := h.len.2
  have ly := h'.len.2
  have lm : (maxLL x y).length = A.length := by simp [maxLL, lx, ly]
  have hg := maxLL_getD (show x.length = y.length by omega)
  have d1 := h.due (maxLL x y) lm (fun i => by rw [hg]; exact Int.le_max_left _ _)
  have d2 := h'.due (maxLL x y) lm (fun i => by rw [hg]; exact Int.le_max_right _ _)
  have hnn : ∀ v ∈ maxLL x y, 0 ≤ v := all_getD fun i _ => by rw [hg]; have := h.nn i; omega
  have hk := d1.nn hnn
  obtain ⟨D, k, d, hs⟩ := stuck_ex (subL (maxLL x y) x).sum.toNat d1 lm hk (by omega)
  have k1 := due_le d1 d r.sh lm hs
  have k2 := due_le d2 d r.sh lm hs
  have knn := d.nn hnn
  have e : k = List.replicate A.length 0 := by
    refine ext_getD (by simp [d.len.2, lm]) fun i hi => ?_
    have hi' : i < A.length := by rw [d.len.2, lm] at hi; exact hi
    have a := k1 i hi'
    have b := k2 i hi'
    rw [subL_getD (by omega), hg] at a b
    have c := knn _ (List.getElem_mem hi)
    rw [← getD_at hi] at c
    have : (List.replicate A.length (0 : Int)).getD i 0 = 0 := by simp [List.getD_eq_getElem?_getD, hi']
    rw [this]
    omega
  have := d.rn lm
  have e2 : subL (maxLL x y) k = maxLL x y := by
    refine ext_getD (by simp [subL, d.len.2]) fun i hi => ?_
    rw [subL_getD (by rw [d.len.2]), e]
    have : (List.replicate A.length (0 : Int)).getD i 0 = 0 := by simp [List.getD_eq_getElem?_getD, List.getElem?_replicate]; split <;> simp
    rw [this]; omega
  rw [e2] at this
  exact ⟨D, this⟩
theorem set_join (hx : ∀ i, 0 ≤ x.getD i 0) (hy : ∀ i, 0 ≤ y.getD i 0) (hl : x.length = y.length) (m : Nat) : setN F (maxLL x y) m = nOr (setN F x m) (setN F y m) := by
  refine eq_bits fun j => ?_
  rw [nOr_bit, Bool.eq_iff_iff, Bool.or_eq_true, setN_bit, setN_bit, setN_bit]
  have hg := maxLL_getD hl
  constructor
  · rintro ⟨i, h1, h2, h3⟩
    rw [hg] at h3
    have a := hx i
    have b := hy i
    rcases Int.le_total (x.getD i 0) (y.getD i 0) with h | h
    · exact .inr ⟨i, h1, h2, by rw [Int.max_eq_right h] at h3; exact h3⟩
    · exact .inl ⟨i, h1, h2, by rw [Int.max_eq_left h] at h3; exact h3⟩
  · rintro (⟨i, h1, h2, h3⟩ | ⟨i, h1, h2, h3⟩)
    · refine ⟨i, h1, h2, ?_⟩
      rw [hg]
      omega
    · refine ⟨i, h1, h2, ?_⟩
      rw [hg]
      omega
end Go.Proofs.Ytnnjehonbolliaa
namespace Go.Proofs.Ytnnjehonbolliaa
set_option linter.unusedSimpArgs false
set_option linter.unusedVariables false
set_option maxHeartbeats 4000000
open Go Go.Eng
variable {L : List (List Int)} {A F E x y z B C : List Int} {R : Nat}
theorem RS.mem (r : RS L A F E R) {a : Nat} : a ∈ runSets L A F ↔ ∃ x B, Rn L A x B ∧ setN F x A.length = a := by
  unfold runSets famK
  rw [List.mem_filter, List.mem_range, isRunSet_iff]
  constructor
  · exact fun h => h.2
  · rintro ⟨x, B, h, rfl⟩
    refine ⟨?_, x, B, h, rfl⟩
    have h1 := setN_lt (F := F) (x := x) (fun i => (r.le h i).2) A.length
    rw [r.st] at h1
    exact Nat.lt_of_lt_of_le h1 (bit_mono r.r7)
theorem set_set (hx : ∀ i, 0 ≤ x.getD i 0 ∧ x.getD i 0 ≤ F.getD i 0) {m p : Nat} (hxm : x.length = m) (hp : p < m) (hpF : x.getD p 0 < F.getD p 0) :
    (setN F x m).testBit (startN F p + (x.getD p 0).toNat) = false ∧ setN F (x.set p (x.getD p 0 + 1)) m = nOr (setN F x m) (bit (startN F p + (x.getD p 0).toNat)) := by
  have hxp := hx p
  refine ⟨by rw [setN_at hx hp (by omega)]; simp, eq_bits fun j => ?_⟩
  have e1 : (x.set p (x.getD p 0 + 1)).getD p 0 = x.getD p 0 + 1 := by rw [List.getD_eq_getElem?_getD, List.getElem?_set_self (by omega)]; rfl
  have e2 : ∀ i, i ≠ p → (x.set p (x.getD p 0 + 1)).getD i 0 = x.getD i 0 := fun i hi => by
    rw [List.getD_eq_getElem?_getD, List.getElem?_set_ne (fun e => hi e.symm), ← List.getD_eq_getElem?_getD]
  rw [nOr_bit, bit_bit, Bool.eq_iff_iff, Bool.or_eq_true, setN_bit, setN_bit, decide_eq_true_iff]
  constructor
  · rintro ⟨i, h1, h2, h3⟩
    by_cases e : i = p
    · subst e
      rw [e1] at h3
      by_cases q : startN F i + (x.getD i 0).toNat = j
      · exact .inr q
      · exact .inl ⟨i, h1, h2, by omega⟩
    · rw [e2 i e] at h3
      exact .inl ⟨i, h1, h2, h3⟩
  · rintro (⟨i, h1, h2, h3⟩ | e)
    · refine ⟨i, h1, h2, ?_⟩
      by_cases e : i = p
      · subst e; rw [e1]; omega
      · rw [e2 i e]; exact h3
    · exact ⟨p, hp, by omega, by rw [e1]; omega⟩
theorem RS.step_lt (r : RS L A F E R) (h : Rn L A x B) {p : Nat} (hp : p < A.length) (hc : canB L B p = true) : x.getD p 0 < F.getD p 0 := by
  have h1 := r.le (h.stepD hp hc) p
  have e1 : (x.set p (x.getD p 0 + 1)).getD p 0 = x.getD p 0 + 1 := by rw [List.getD_eq_getElem?_getD, List.getElem?_set_self (by have := h.len.2; omega)]; rfl
  rw [e1] at h1
  omega
theorem xor_or {a j : Nat} (h : a.testBit j = false) : nXor (nOr a (bit j)) (bit j) = a := by
  refine eq_bits fun i => ?_
  rw [nXor_bit, nOr_bit, bit_bit]
  by_cases e : j = i
  · subst e; simp [h]
  · simp [e]
theorem Rn.last (h : Rn L A y C) : y = List.replicate A.length 0 ∨ ∃ x B p, Rn L A x B ∧ p < A.length ∧ canB L B p = true ∧ y = x.set p (x.getD p 0 + 1) := by
  cases h with
  | zero => exact .inl rfl
  | @step x B i h hi hc hx =>
    refine .inr ⟨x, B, i, h, by have := h.len.1; omega, hc, ?_⟩
    rw [getD_at hx]
theorem RS.good (r : RS L A F E R) : SpGood R (runSets L A F) where
  n1 := r.r1
  n7 := r.r7
  srt := List.Pairwise.filter _ List.pairwise_lt_range
  lt := fun a ha => by
    obtain ⟨x, B, h, rfl⟩ := r.mem.1 ha
    have h1 := setN_lt (F := F) (x := x) (fun i => (r.le h i).2) A.length
    rwa [r.st] at h1
  zero := r.mem.2 ⟨_, _, .zero, setN_zero _ _ _⟩
  full := r.mem.2 ⟨_, _, r.f.rn, by
    have h1 := setN_lt (F := F) (x := F) (fun i => Int.le_refl _) A.length
    rw [r.st] at h1
    refine eq_bits_n h1 (by have := bit_pos R; omega) fun j hj => ?_
    rw [full_bit, decide_eq_true hj, setN_bit]
    obtain ⟨i, t, h2, h3, h4, _⟩ := place_ex F A.length j (by rw [r.st]; exact hj)
    exact ⟨i, h2, by omega, by omega⟩⟩
  inn := fun a ha hne => by
    obtain ⟨y, C, h, rfl⟩ := r.mem.1 ha
    rcases h.last with rfl | ⟨x, B, p, h1, hp, hc, rfl⟩
    · exact absurd (setN_zero _ _ _) hne
    · have hlt := r.step_lt h1 hp hc
      obtain ⟨s1, s2⟩ := set_set (r.le h1) h1.len.2 hp hlt
      unfold innerN
      rw [maskN_ne]
      have hj : startN F p + (x.getD p 0).toNat < R := by
        have := startN_mono F (show p + 1 ≤ A.length by omega)
        rw [startN_succ, r.st] at this
        have := h1.nn p
        omega
      refine ⟨startN F p + (x.getD p 0).toNat, by have := r.r7; omega, ?_⟩
      rw [s2, xor_or s1, Bool.and_eq_true]
      refine ⟨by rw [nOr_bit, bit_bit]; simp, ?_⟩
      unfold fam
      exact decide_eq_true (r.mem.2 ⟨x, B, h1, rfl⟩)
  uni := fun a ha b hb => by
    obtain ⟨x, B, h, rfl⟩ := r.mem.1 ha
    obtain ⟨y, C, h', rfl⟩ := r.mem.1 hb
    obtain ⟨D, hD⟩ := r.join h h'
    exact r.mem.2 ⟨_, _, hD, set_join h.nn h'.nn (by rw [h.len.2, h'.len.2]) _⟩
theorem RS.outer (r : RS L A F E R) (h : Rn L A x B) {j : Nat} : (j < R ∧ (setN F x A.length).testBit j = false ∧ nOr (setN F x A.length) (bit j) ∈ runSets L A F) ↔ ∃ p, p < A.length ∧ canB L B p = true ∧ j = startN F p + (x.getD p 0).toNat := by
  constructor
  · rintro ⟨hj, hn, hm⟩
    obtain ⟨y, C, h', e⟩ := r.mem.1 hm
    obtain ⟨p, t, h1, h2, rfl, _⟩ := place_ex F A.length j (by rw [r.st]; exact hj)
    obtain ⟨e1, e2⟩ := set_step (r.le h) (r.le h') h.len.2 h'.len.2 h1 h2 hn e
    exact ⟨p, h1, r.can h h' h1 e2, by omega⟩
  · rintro ⟨p, hp, hc, rfl⟩
    have hlt := r.step_lt h hp hc
    obtain ⟨s1, s2⟩ := set_set (r.le h) h.len.2 hp hlt
    refine ⟨?_, s1, r.mem.2 ⟨_, _, h.stepD hp hc, s2⟩⟩
    have := startN_mono F (show p + 1 ≤ A.length by omega)
    rw [startN_succ, r.st] at this
    have := h.nn p
    omega
theorem RS.items (r : RS L A F E R) (h : Rn L A x B) : itemsN (outerN (fam (runSets L A F)) 7 (setN F x A.length)) = (movesL L B).map fun m => startN F m.toNat + (x.getD m.toNat 0).toNat := by
  have lb := h.len.1
  refine srt_ext (List.Pairwise.filter _ List.pairwise_lt_range) ?_ fun j => ?_
  · unfold movesL
    rw [List.map_map, List.pairwise_map]
    refine List.Pairwise.imp_of_mem (R := (· < ·)) (fun {a b} ha hb hab => ?_) (List.Pairwise.filter _ List.pairwise_lt_range)
    simp only [List.mem_filter, List.mem_range] at ha hb
    have hlt := r.step_lt h (show a < A.length by omega) ha.2
    have := startN_mono F (show a + 1 ≤ b by omega)
    rw [startN_succ] at this
    have := h.nn a
    simp only [Function.comp, Int.toNat_natCast]
    omega
  · rw [mem_items, r.good.outer7, outerN_bit]
    have ho := r.outer h (j := j)
    have h7 := r.r7
    constructor
    · rintro ⟨_, hb⟩
      simp only [Bool.and_eq_true, decide_eq_true_eq, Bool.not_eq_true', fam] at hb
      obtain ⟨p, hp, hc, e⟩ := ho.1 ⟨hb.1, hb.2.1, hb.2.2⟩
      exact List.mem_map.2 ⟨(p : Int), List.mem_map.2 ⟨p, List.mem_filter.2 ⟨by simpa using (by omega : p < B.length), hc⟩, rfl⟩, by simp [e]⟩
    · intro hm
      obtain ⟨m, hm, e⟩ := List.mem_map.1 hm
      obtain ⟨i, rfl, hi, hc⟩ := moves_mem hm
      obtain ⟨h1, h2, h3⟩ := ho.2 ⟨i, by omega, hc, by simpa using e.symm⟩
      refine ⟨by omega, ?_⟩
      simp only [Bool.and_eq_true, decide_eq_true_eq, Bool.not_eq_true', fam]
      exact ⟨h1, h2, h3⟩
theorem RS.ways (r : RS L A F E R) : ∀ (k : Nat) {x B : List Int}, Rn L A x B → x.sum + (k : Int) = R → waysM (fam (runSets L A F)) k (setN F x A.length) = wN L k B
  | 0, x, B, h, hk => by
    obtain ⟨_, rfl⟩ := r.f.end r.sh h (by omega)
    simp [waysM, wN, r.f.last]
  | k + 1, x, B, h, hk => by
    have hm := r.f.more r.sh h (by omega)
    rw [waysM, r.items h, wN, if_neg hm, List.map_map]
    congr 1
    refine List.map_congr_left fun m hmm => ?_
    obtain ⟨i, rfl, hi, hc⟩ := moves_mem hmm
    have hi' : i < A.length := by have := h.len.1; omega
    have hlt := r.step_lt h hi' hc
    obtain ⟨_, s2⟩ := set_set (r.le h) h.len.2 hi' hlt
    simp only [Function.comp, Int.toNat_natCast]
    rw [← s2]
    refine r.ways k (h.stepD hi' hc) ?_
    have hx : i < x.length := by have := h.len.2; omega
    rw [getD_at hx, Rn.step_sum hx]
    omega
theorem RS.count (r : RS L A F E R) : waysM (fam (runSets L A F)) R 0 = wN L R A := by
  have := r.ways R (x := List.replicate A.length 0) (B := A) .zero (by simp)
  rwa [setN_zero] at this
theorem RS.pos (r : RS L A F E R) {j : Nat} (hj : j < R) : ∃ i : Nat, i < A.length ∧ (placesN F A.length).getD j 0 = (i : Int) := by
  obtain ⟨i, t, h1, _, _, h4⟩ := place_ex F A.length j (by rw [r.st]; exact hj)
  exact ⟨i, h1, h4⟩
theorem RS.walk (r : RS L A F E R) (ch : List Int) : ∀ k, k ≤ R → ∃ x B, Rn L A x B ∧ setN F x A.length = (walkS (fam (runSets L A F)) R ch k).2 ∧ runA L A ((walkS (fam (runSets L A F)) R ch k).1.map fun j => (placesN F A.length).getD j 0) = some B
  | 0, _ => ⟨_, _, .zero, by simp [walkS, setN_zero], by simp [walkS, runA]⟩
  | k + 1, hk => by
    obtain ⟨x, B, h, e1, e2⟩ := r.walk ch k (by omega)
    have hmem := pickN_mem (ch := ch) (k := k) (walk_ne r.good ch (k := k) (by omega))
    have hl := r.good.learn hmem
    rw [← e1] at hl
    obtain ⟨p, hp, hc, ej⟩ := (r.outer h).1 hl
    have hlt := r.step_lt h hp hc
    obtain ⟨_, s2⟩ := set_set (r.le h) h.len.2 hp hlt
    refine ⟨_, _, h.stepD hp hc, ?_, ?_⟩
    · rw [s2, ← ej, e1]; rfl
    · show runA L A (List.map _ (_ ++ [_])) = _
      rw [List.map_append, runA_append, e2]
      simp only [List.map_cons, List.map_nil, runA]
      rw [← e1, ej]
      have : (placesN F A.length).getD (startN F p + (x.getD p 0).toNat) 0 = (p : Int) := by
        obtain ⟨i, t, h1, h2, h3, h4⟩ := place_ex F A.length (startN F p + (x.getD p 0).toNat) (by
          have := startN_mono F (show p + 1 ≤ A.length by omega)
          rw [startN_succ] at this
          have := h.nn p
          omega)
        have : i = p := by
          have := h.nn p
          rcases Nat.lt_trichotomy i p with hlt | e' | hlt
          · have := startN_mono F (show i + 1 ≤ p by omega)
            rw [startN_succ] at this; omega
          · exact e'
          · have := startN_mono F (show p + 1 ≤ i by omega)
            rw [startN_succ] at this; omega
        subst this
        exact h4
      rw [this, stepA_some (by rw [h.len.1]; exact hp) hc]
end Go.Proofs.Ytnnjehonbolliaa
namespace Go.Proofs.Ytnnjehonbolliaa
set_option linter.unusedSimpArgs false
set_option linter.unusedVariables false
set_option maxHeartbeats 4000000
open Go Go.Eng
variable {L : List (List Int)} {A F E x y z B C : List Int} {R : Nat}
def pickedL (P : List Int) (a j : Nat) : List Int := ((List.range j).filter a.testBit).map fun t => P.getD t 0
theorem pickedL_succ (P : List Int) (a j : Nat) : pickedL P a (j + 1) = if a.testBit j = true then pickedL P a j ++ [P.getD j 0] else pickedL P a j := by
  unfold pickedL
  rw [List.range_succ, List.filter_append, List.map_append]
  by_cases h : a.testBit j = true <;> simp [h]
theorem pickedL_len (P : List Int) (a j : Nat) : (pickedL P a j).length ≤ j := by
  unfold pickedL
  rw [List.length_map]
  exact Nat.le_trans (List.length_filter_le _ _) (by simp)
theorem range_filter_lt (n a : Nat) (h : a ≤ n) : (List.range n).filter (fun t => decide (t < a)) = List.range a := by
  induction n with
  | zero => have : a = 0 := by omega
            subst this; rfl
  | succ n ih =>
    rw [List.range_succ, List.filter_append]
    by_cases e : a = n + 1
    · subst e
      rw [List.filter_eq_self.2 (fun t ht => decide_eq_true (by have := List.mem_range.1 ht; omega))]
      simp [List.range_succ]
    · rw [ih (by omega)]
      simp; omega
theorem picked_set (hx : ∀ i, 0 ≤ x.getD i 0 ∧ x.getD i 0 ≤ F.getD i 0) {m : Nat} : ∀ k, k ≤ m → pickedL (placesN F m) (setN F x m) (startN F k) = placesN x k
  | 0, _ => by simp [pickedL, placesN, startN]
  | k + 1, hk => by
    have ih := picked_set hx (m := m) k (by omega)
    have hxk := hx k
    rw [startN_succ, placesN_succ, ← ih]
    unfold pickedL
    rw [List.range_add, List.filter_append, List.map_append]
    congr 1
    rw [List.filter_map, List.map_map]
    have e1 : (List.range (F.getD k 0).toNat).filter ((setN F x m).testBit ∘ fun t => startN F k + t) = List.range (x.getD k 0).toNat := by
      rw [← range_filter_lt (F.getD k 0).toNat (x.getD k 0).toNat (by omega)]
      refine List.filter_congr fun t ht => ?_
      exact setN_at hx (by omega) (by simpa using ht)
    rw [e1]
    refine List.ext_getElem (by simp) fun t h1 h2 => ?_
    simp only [List.length_map, List.length_range] at h1
    simp only [List.getElem_map, List.getElem_range, List.getElem_replicate, Function.comp]
    obtain ⟨i, t', h3, h4, h5, h6⟩ := place_ex F m (startN F k + t) (by
      have := startN_mono F (show k + 1 ≤ m by omega)
      rw [startN_succ] at this; omega)
    have : i = k := by
      rcases Nat.lt_trichotomy i k with hlt | e' | hlt
      · have := startN_mono F (show i + 1 ≤ k by omega)
        rw [startN_succ] at this; omega
      · exact e'
      · have := startN_mono F (show k + 1 ≤ i by omega)
        rw [startN_succ] at this; omega
    subst this
    exact h6
theorem count_places (x : List Int) : ∀ m i : Nat, (placesN x m).count (i : Int) = if i < m then (x.getD i 0).toNat else 0
  | 0, i => by simp [placesN]
  | m + 1, i => by
    rw [placesN_succ, List.count_append, count_places x m i, List.count_replicate]
    by_cases e : m = i
    · subst e; simp
    · have : ¬ ((m : Int) == (i : Int)) = true := by simp; omega
      rw [if_neg this]
      by_cases h : i < m
      · rw [if_pos h, if_pos (by omega)]; rfl
      · rw [if_neg h, if_neg (by omega)]
theorem cnt_places (hx : ∀ i, 0 ≤ x.getD i 0) {m : Nat} (hl : x.length = m) : cntL m (placesN x m) = x := by
  refine ext_getD (by simp [cntL, hl]) fun i hi => ?_
  have hi' : i < m := by simpa [cntL] using hi
  have h1 : i < (cntL m (placesN x m)).length := hi
  rw [getD_at h1]
  simp only [cntL, List.getElem_map, List.getElem_range]
  rw [count_places, if_pos hi']
  have := hx i
  omega
theorem RS.own (r : RS L A F E R) (h : Rn L A x B) : cntL A.length (pickedL (placesN F A.length) (setN F x A.length) R) = x := by
  have := picked_set (r.le h) (m := A.length) A.length (Nat.le_refl _)
  rw [r.st] at this
  rw [this, cnt_places h.nn h.len.2]
theorem RS.reached (r : RS L A F E R) (hg : goodB L A = true) (hs : (fullR L A []).isSome = true) (h : Rn L A x B) : reB L A x = true := by
  have hle := r.le h
  have hsum := r.f.le r.sh h
  have hb := h.small (by have := r.r7; omega)
  have d := h.due x h.len.2 (fun i => Int.le_refl _)
  rw [reB_eq ⟨hg, hs, h.len.2, hb⟩ d (by
    intro i _ _
    rw [subL_getD rfl]; omega)]
  rw [subL_self]
  simp
theorem rs_of (hb : rsB L A = true) : ∃ E R, goodB L A = true ∧ (fullR L A []).isSome = true ∧ RS L A (rsF L A) E R ∧ countsR L A = some (rsF L A) ∧ rsN L A = (R : Int) ∧ rsX L A = toN (runSets L A (rsF L A)) ∧ rsP L A = placesN (rsF L A) A.length ∧ (placesN (rsF L A) A.length).length = R ∧
    runsB L A = true ∧ runsN L A = ((wN L R A : Nat) : Int) ∧ (∀ y ∈ rsF L A, 0 ≤ y ∧ y ≤ 60) ∧ (rsF L A).length = A.length := by
  have h0 := hb
  rw [rsB, Bool.and_eq_true] at hb
  obtain ⟨q, hq⟩ : ∃ q, fullR L A [] = some q := by
    cases hq : fullR L A [] with
    | none => simp [countsR, hq, fst?] at hb
    | some q => exact ⟨q, rfl⟩
  have hg : goodB L A = true := by
    by_cases hg : goodB L A = true
    · exact hg
    · simp [fullR, hg] at hq
  have gA := good_of hg
  obtain ⟨e1, e2, e3, e4, e5, e6, e7⟩ := rs_full (show fullR L A [] = some (q.1, q.2) from hq) gA.shape
  rw [h0] at e7
  obtain ⟨R, eR, r1, r7⟩ := sizeB_true e7.symm
  have eR' : q.1.length = R := by omega
  have f := fullR_fin (by simp) (show fullR L A [] = some (q.1, q.2) from hq)
  rw [eR', ← e1] at f
  have r : RS L A (rsF L A) q.2 R := ⟨gA.shape, gA.ok, f, r1, r7⟩
  have st := r.st
  have hc : countsR L A = some (rsF L A) := by rw [e1, countsR, hq]; rfl
  have hlen : ((fst? (fullR L A [])).getD []).length = R := by rw [hq]; exact eR'
  have hw : wN L R A ≤ 823543 := by rw [← r.count]; exact Nat.le_trans (waysM_le _ _ _) (pow7 r7)
  have hrb : runsB L A = true := by
    rw [runsB, hlen, hq, Bool.and_eq_true]
    exact ⟨rfl, decide_eq_true (by omega)⟩
  refine ⟨q.2, R, hg, by rw [hq]; rfl, r, hc, ?_, by rw [rsX, if_pos h0], by rw [rsP, if_pos h0], st, hrb, by rw [runsN, if_pos hrb, hlen], e4, e3⟩
  rw [rsN, if_pos h0]
  show ((startN (rsF L A) A.length : Nat) : Int) = _
  rw [st]
theorem walk_items {n : Nat} {xs : List Nat} (g : SpGood n xs) (ch : List Int) : ∀ k, k ≤ n → ∀ t ∈ (walkS (fam xs) n ch k).1, t < n
  | 0, _, t, h => by cases h
  | k + 1, hk, t, h => by
    rw [walkS] at h
    rcases List.mem_append.1 h with h | h
    · exact walk_items g ch k (by omega) t h
    · simp only [List.mem_singleton] at h
      subst h
      exact (g.learn (pickN_mem (walk_ne g ch (k := k) (by omega)))).1
theorem cnt_le2 {n i : Nat} {l : List Int} (hi : i < (cntL n l).length) : 0 ≤ (cntL n l)[i] ∧ (cntL n l)[i] ≤ l.length := by
  simp only [cntL, List.getElem_map, List.getElem_range]
  have := List.count_le_length (a := (i : Int)) (l := l)
  omega
end Go.Proofs.Ytnnjehonbolliaa
namespace Go.Proofs.Ytnnjehonbolliaa
set_option linter.unusedSimpArgs false
set_option linter.unusedVariables false
set_option maxHeartbeats 4000000
open Go Go.Eng
attribute [local irreducible] WD RunD PreD Runs CallOK
theorem reached1_ok (h : Hp) (x : Int) : CallOK Try.prog 68 #[.int .i64 x] h (.bool (!decide (0 ≤ x ∧ x ≤ 60))) h := by
  refine callY_P 6 _ [.tmp 2] Try.func68 rfl rfl rfl (by first | rfl | simp) ?_
  try simp (disch := first | omega | (simp; done) | fail) [wrap64c, if_pos, if_neg]
  refine callG_c (by simp) (by simp) ?ha (within_ok h x 0 60) ?_
  (case ha => simp (disch := first | omega | (simp; done) | fail) [wrap64c, if_pos, if_neg])
  try simp (disch := first | omega | (simp; done) | fail) [wrap64c, if_pos, if_neg]
  exact done_ret rfl (by simp)
theorem reached2_ok (h : Hp) (o : Nat) (u : Value) (k : List Int) (x : Int) (S : Nat → Prop) (ex : Bool) (hg : h.get o = .cells [u] true ex 1) (hk : IntsO S h u k) (h0 : 0 ≤ x) (h1 : x < k.length) :
    CallOK Try.prog 71 #[.int .i64 x, .pointer (some ⟨o, 0, none⟩)] h (.bool (decide (0 < k.getD x.toNat 0))) h := by
  refine callY_P 9 _ [.tmp 3] Try.func71 rfl rfl rfl (by first | rfl | simp) ?_
  obtain ⟨i, rfl⟩ : ∃ i : Nat, x = (i : Int) := ⟨x.toNat, by omega⟩
  have hi : i < k.length := by omega
  obtain ⟨o_z, i_z, c_z, cs_z, ex_z, q_z, S_z, b_z, g_z, l_z, r_z⟩ := hk.open ((by omega))
  have z_z : ∀ h2 : i_z < cs_z.length, cs_z[i_z] = _ := fun h2 => r_z 0 ((by omega)) h2
  have hg' := hg
  try simp (disch := first | omega | (simp; done) | fail) [wrap64c, if_pos, if_neg, q_z, g_z, l_z, r_z, z_z, hg']
  exact done_ret rfl (by simp [hi])
def maxL : List Int → Int
  | [] => 0
  | x :: l => l.foldl (fun a y => if y > a then y else a) x
theorem maxL_cons (x : Int) (l : List Int) : maxL (x :: l) = l.foldl (fun a y => if y > a then y else a) x := rfl
theorem foldl_max_ge (l : List Int) : ∀ (x : Int), x ≤ l.foldl (fun a y => if y > a then y else a) x ∧ (∀ y ∈ l, y ≤ l.foldl (fun a y => if y > a then y else a) x) ∧ (l.foldl (fun a y => if y > a then y else a) x = x ∨ l.foldl (fun a y => if y > a then y else a) x ∈ l) := by
  induction l with
  | nil => intro x; simp
  | cons y l ih =>
    intro x
    simp only [List.foldl_cons]
    obtain ⟨h1, h2, h3⟩ := ih (if y > x then y else x)
    have hx : x ≤ (if y > x then y else x) ∧ y ≤ (if y > x then y else x) := by split <;> omega
    refine ⟨Int.le_trans hx.1 h1, fun z hz => ?_, ?_⟩
    · rcases List.mem_cons.1 hz with rfl | hz
      · exact Int.le_trans hx.2 h1
      · exact h2 z hz
    · rcases h3 with h3 | h3
      · rw [h3]; split
        · exact .inr (List.mem_cons_self)
        · exact .inl rfl
      · exact .inr (List.mem_cons_of_mem _ h3)
theorem maxL_zero {k : List Int} (hk : 0 < k.length) (hn : ∀ x ∈ k, 0 ≤ x) : (maxL k == 0) = decide (∀ x ∈ k, x = 0) := by
  obtain ⟨x, l, rfl⟩ : ∃ x l, k = x :: l := by cases k with
    | nil => simp at hk
    | cons x l => exact ⟨x, l, rfl⟩
  rw [maxL_cons]
  obtain ⟨h1, h2, h3⟩ := foldl_max_ge l x
  have hx := hn x (List.mem_cons_self)
  by_cases hz : ∀ y ∈ x :: l, y = 0
  · rw [decide_eq_true hz]
    have e1 := hz x (List.mem_cons_self)
    have : l.foldl (fun a y => if y > a then y else a) x = 0 := by
      rcases h3 with h3 | h3
      · omega
      · exact hz _ (List.mem_cons_of_mem _ h3)
    simp [this]
  · rw [decide_eq_false hz]
    simp only [beq_eq_false_iff_ne]
    intro e
    apply hz
    intro y hy
    have := hn y hy
    rcases List.mem_cons.1 hy with rfl | hy
    · omega
    · have := h2 y hy; omega
theorem idxW_pos (p : Int → Bool) : ∀ (l : List Int) (j : Nat) (hj : j < l.length), idxW p l = (j : Int) → p l[j] = true
  | x :: l, j, hj, h => by
    unfold idxW at h
    split at h
    · rename_i hp
      have : j = 0 := by omega
      subst this
      simpa using hp
    · split at h
      · omega
      · obtain ⟨i, rfl⟩ : ∃ i, j = i + 1 := ⟨j - 1, by omega⟩
        simpa using idxW_pos p l i (by simpa using hj) (by omega)
theorem slMax_ok (h : Hp) (v : Value) (k : List Int) (hv : Ints h v k) (hk : 0 < k.length) : CallOK Try.prog 72 #[v] h (.int .i64 (maxL k)) h := by
  refine callY_P 25 _ [.tmp 2] Try.func72 rfl rfl rfl (by first | rfl | simp) ?_
  have hl := hv.len
  have lv := hv.lenD
  have hne : ¬ k = [] := by intro e; rw [e] at hk; simp at hk
  obtain ⟨x, l, rfl⟩ : ∃ x l, k = x :: l := by cases k with
    | nil => simp at hk
    | cons x l => exact ⟨x, l, rfl⟩
  have hl2 : (x :: l).length = l.length + 1 := rfl
  obtain ⟨o_z, i_z, c_z, cs_z, own_z, ex_z, es_z, q_z, b_z, g_z, l_z, r_z⟩ := hv.open (hk)
  have z_z : ∀ h2 : i_z < cs_z.length, cs_z[i_z] = _ := fun h2 => r_z 0 (hk) h2
  try simp (disch := first | omega | (simp; done) | fail) [wrap64c, if_pos, if_neg, lv, hne, q_z, g_z, l_z, r_z, z_z]
  refine WD_loopC [0] (fun m tm h' => ∃ j, m = (x :: l).length - j ∧ h = h' ∧ tm 3 = .int .i64 ((l.take (j - 1)).foldl (fun a y => if y > a then y else a) x) ∧ tm 4 = .int .i64 (j : Int) ∧ (1 ≤ j ∧ j ≤ (x :: l).length)) _ ⟨1, rfl, rfl, (by simp (disch := first | omega | (simp; done) | fail) [wrap64c, if_pos, if_neg, lv, hne, q_z, g_z, l_z, r_z, z_z]), (by simp (disch := first | omega | (simp; done) | fail) [wrap64c, if_pos, if_neg, lv, hne, q_z, g_z, l_z, r_z, z_z]), (by first | omega | assumption | (simp (disch := first | omega | (simp; done) | fail) [wrap64c, if_pos, if_neg, lv, hne, q_z, g_z, l_z, r_z, z_z] <;> omega))⟩ ?_
  rintro m tm h' hFr ⟨j, rfl, rfl, e3, e4, hj⟩
  simp only [FrameL] at hFr
  obtain ⟨f0_0, -⟩ := hFr
  try simp (disch := first | omega | (simp; done) | fail) [wrap64c, if_pos, if_neg, lv, hne, q_z, g_z, l_z, r_z, z_z] at f0_0
  have e0 := f0_0
  by_cases hlt : j < (x :: l).length
  · have hlt' : j - 1 < l.length := by simp at hlt; omega
    have ej : (x :: l)[j] = l[j - 1] := by
      obtain ⟨i, rfl⟩ : ∃ i, j = i + 1 := ⟨j - 1, by omega⟩
      simp
    have ej' := ej
    have es : (l.take (j + 1 - 1)).foldl (fun a y => if y > a then y else a) x = (if l[j - 1] > (l.take (j - 1)).foldl (fun a y => if y > a then y else a) x then l[j - 1] else (l.take (j - 1)).foldl (fun a y => if y > a then y else a) x) := by
      rw [show j + 1 - 1 = (j - 1) + 1 by omega, List.take_succ_eq_append_getElem hlt', List.foldl_append]; rfl
    try simp (disch := first | omega | (simp; done) | fail) [wrap64c, if_pos, if_neg, lv, hne, q_z, g_z, l_z, r_z, z_z, e0, e3, e4, hlt, ej']
    refine loopK_next _ ?hm ?hf ⟨j + 1, rfl, rfl, (by rw [es]; simp [ej]), (by simp (disch := first | omega | (simp; done) | fail) [wrap64c, if_pos, if_neg, lv, hne, q_z, g_z, l_z, r_z, z_z, e0, e3, e4, hlt, ej'] <;> omega), (by first | omega | assumption | (simp (disch := first | omega | (simp; done) | fail) [wrap64c, if_pos, if_neg, lv, hne, q_z, g_z, l_z, r_z, z_z, e0, e3, e4, hlt, ej'] <;> omega))⟩
    (case hm => first | omega | (simp; omega))
    (case hf => simp [FrameL, lv, hne, q_z, g_z, l_z, r_z, z_z, e0, e3, e4, hlt, ej', f0_0])
  · try simp (disch := first | omega | (simp; done) | fail) [wrap64c, if_pos, if_neg, lv, hne, q_z, g_z, l_z, r_z, z_z, e0, e3, e4, hlt]
    have : l.take (j - 1) = l := List.take_of_length_le (by simp at hlt hj; omega)
    exact done_ret rfl (by rw [maxL_cons]; simp [e3, this])
theorem imReachedBy_ok (h : Hp) (v w : Value) (L : List (List Int)) (A cs : List Int) (hv : Chips h v L A) (hw : Ints h w cs) : CallOK Try.prog 31 #[v, w] h (.tuple #[.bool (reB L A cs), .bool (reG L A cs)]) h := by
  refine callY_P 60 _ [.tmp 4, .tmp 5] Try.func31 rfl rfl rfl (by first | rfl | simp) ?_
  have hv0 := hv
  have hwl := hw.len
  have lw := hw.lenD
  obtain ⟨a, b, rfl, hL, hA⟩ := hv
  have lA := hA.lenD
  have hAl := hA.len
  refine WD_first ?_
  try simp (disch := first | omega | (simp; done) | fail) [wrap64c, if_pos, if_neg, lw, lA]
  refine stopK_heap fun h0 q_h0 => ?_
  refine stopK_go ?_
  have g_h0 : h0.get h.next = .cells [a, b] true true 1 := by simp [q_h0]
  have k_h0 : Adds h h0 := by rw [q_h0]; exact (by first | exact aK | exact kK)
  have n_h0 : h.next < h0.next := by simp [q_h0]; try omega
  try simp (disch := first | omega | (simp; done) | fail) [wrap64c, if_pos, if_neg, lw, lA, g_h0]
  obtain ⟨v1, h1, hc1, ha1, u1, u2, rfl, hu1, hu2⟩ := imFull_ok h0 _ (.slice none 0 0) L A [] (hv0.keep k_h0.1) (Ints.nil _) (by simp)
  obtain ⟨p0, q0, P1, P2, rfl, hp0, hq0, _, _, _⟩ := hu2
  refine callG_c (by simp) (by simp) ?ha (hc1) ?_
  (case ha => simp (disch := first | omega | (simp; done) | fail) [wrap64c, if_pos, if_neg, lw, lA, g_h0])
  have ntp0 := hp0.nt
  have csp0 := hp0.cs
  have ntq0 := hq0.nt
  have csq0 := hq0.cs
  have n1 := ha1.1.1
  have K1 := k_h0.trans ha1
  have g1 : h1.get h.next = .cells [a, b] true true 1 := by rw [ha1.1.2 _ n_h0]; exact g_h0
  try simp (disch := first | omega | (simp; done) | fail) [wrap64c, if_pos, if_neg, lw, lA, g_h0, ntp0, csp0, ntq0, csq0, g1, putCells, -wd_region, wd_region 0, wd_region 1, wd_region 3, wd_region 4, wd_region 5, wd_region 6, wd_region 7, wd_region 8, wd_region 9, wd_region 10]
  first | refine WY_heap fun h2 q_h2 => ?_ | refine callG_heap fun h2 q_h2 => ?_ | refine callP_heap fun h2 q_h2 => ?_ | refine callS_heap fun h2 q_h2 => ?_ | refine RY_heap fun h2 q_h2 => ?_ | refine PY_heap fun h2 q_h2 => ?_ | refine SY_heap fun h2 q_h2 => ?_ | refine doneY_heap fun h2 q_h2 => ?_ | refine loopK_heap fun h2 q_h2 => ?_ | refine thenY_heap fun h2 q_h2 => ?_ | refine thenM_heap fun h2 q_h2 => ?_
  have k12 : Adds h1 h2 := by rw [q_h2]; exact (by first | exact aK | exact kK)
  have n2 := k12.1.1
  have K2 := K1.trans k12
  have g2 : h2.get h.next = .cells [a, b] true true 1 := by rw [k12.1.2 _ (by omega)]; exact g1
  by_cases c4 : (fullR L A []).isSome = true
  · have c1 : goodB L A = true := by
      by_cases c1 : goodB L A = true
      · exact c1
      · rw [show fullR L A [] = none from if_neg c1] at c4; cases c4
    have ho := (good_of c1).ok
    have h5 := ho.le
    obtain ⟨r1, r2⟩ := row_le ho.sh
    by_cases c2 : cs.length = A.length
    · have c2b : ((cs.length : Int) != (A.length : Int)) = false := by simp [c2]
      obtain ⟨pq, hpq⟩ : ∃ pq : Int → Bool, pq = (fun x => !decide (0 ≤ x ∧ x ≤ 60)) := ⟨_, rfl⟩
      have hcf := containsFuncW_ok h2 w cs 68 #[] #[] pq (hw.keep K2.1) (by simp) (fun x _ => by rw [hpq]; simpa using reached1_ok h2 x)
      by_cases c3 : ∀ x ∈ cs, (0 : Int) ≤ x ∧ x ≤ 60
      · have hG : ReG L A cs := ⟨c1, c4, c2, c3⟩
        rw [idxW_none _ cs (fun x hx => by have := c3 x hx; rw [hpq]; simp; exact this)] at hcf
        try simp (disch := first | omega | (simp; done) | fail) [wrap64c, if_pos, if_neg, lw, lA, g_h0, ntp0, csp0, ntq0, csq0, g1, g2, c4, c2b]
        refine callG_c (by simp) (by simp) ?ha (hcf) ?_
        (case ha => simp (disch := first | omega | (simp; done) | fail) [wrap64c, if_pos, if_neg, lw, lA, g_h0, ntp0, csp0, ntq0, csq0, g1, g2, c4, c2b])
        try simp (disch := first | omega | (simp; done) | fail) [wrap64c, if_pos, if_neg, lw, lA, g_h0, ntp0, csp0, ntq0, csq0, g1, g2, c4, c2b]
        refine WD_drawC 6 rfl (by kernel_rfl) ?_
        try simp (disch := first | omega | (simp; done) | fail) [wrap64c, if_pos, if_neg, lw, lA, g_h0, ntp0, csp0, ntq0, csq0, g1, g2, c4, c2b]
        obtain ⟨u3, h3, hc3, ha3, hu3⟩ := clone_ok h2 w cs (hw.keep K2.1) (by omega)
        refine callP_c (by simp) (by simp) ?ha (hc3) ?hadd ?_
        (case ha => simp (disch := first | omega | (simp; done) | fail) [wrap64c, if_pos, if_neg, lw, lA, g_h0, ntp0, csp0, ntq0, csq0, g1, g2, c4, c2b])
        (case hadd => first | assumption | exact adds_self _ | (simp; done))
        have n3 := ha3.1.1
        have K3 := K2.trans ha3
        have g3 : h3.get h.next = .cells [a, b] true true 1 := by rw [ha3.1.2 _ (by omega)]; exact g2
        try simp (disch := first | omega | (simp; done) | fail) [wrap64c, if_pos, if_neg, lw, lA, g_h0, ntp0, csp0, ntq0, csq0, g1, g2, c4, c2b, g3]
        obtain ⟨v4, h4, hc4, ha4, hi4⟩ := imCopied_ok h3 _ L A (hv0.keep K3.1) r1 r2 (by omega)
        obtain ⟨p, q, S1, S2, rfl, hp, hq, s1, s2, s3⟩ := hi4
        refine callP_c (by simp) (by simp) ?ha (hc4) ?hadd ?_
        (case ha => simp (disch := first | omega | (simp; done) | fail) [wrap64c, if_pos, if_neg, lw, lA, g_h0, ntp0, csp0, ntq0, csq0, g1, g2, c4, c2b, g3])
        (case hadd => first | assumption | exact adds_self _ | (simp; done))
        have n4 := ha4.1.1
        have K4 := K3.trans ha4
        have ntp := hp.nt
        have csp := hp.cs
        have ntq := hq.nt
        have csq := hq.cs
        have nt3 := hu3.nt
        have cs3 := hu3.cs
        try simp (disch := first | omega | (simp; done) | fail) [wrap64c, if_pos, if_neg, lw, lA, g_h0, ntp0, csp0, ntq0, csq0, g1, g2, c4, c2b, g3, ntp, csp, ntq, csq, nt3, cs3, putCells]
        first | refine WY_heap fun h5' q_h5' => ?_ | refine callG_heap fun h5' q_h5' => ?_ | refine callP_heap fun h5' q_h5' => ?_ | refine callS_heap fun h5' q_h5' => ?_ | refine RY_heap fun h5' q_h5' => ?_ | refine PY_heap fun h5' q_h5' => ?_ | refine SY_heap fun h5' q_h5' => ?_ | refine doneY_heap fun h5' q_h5' => ?_ | refine loopK_heap fun h5' q_h5' => ?_ | refine thenY_heap fun h5' q_h5' => ?_ | refine thenM_heap fun h5' q_h5' => ?_
        have k5 : Adds h4 h5' := by rw [q_h5']; exact (by first | exact aK | exact kK)
        have n5 : h5'.next = h4.next + 2 := by simp [q_h5']
        have K5 := K4.trans k5
        have e5 : h5'.get h4.next = .cells [u3] true true 1 := by simp [q_h5']
        have f5 : h5'.get (h4.next + 1) = .cells [p, q] true true 1 := by simp [q_h5']
        refine WD_loopC [9, 10] (fun m tm h' => ∃ B k, m = k.sum.toNat ∧ (Adds h h') ∧ (h5'.next ≤ h'.next) ∧ (h'.get h4.next = .cells [u3] true true 1) ∧ (h'.get (h4.next + 1) = .cells [p, q] true true 1) ∧ (Due L A cs B k) ∧ (IRowsO S1 h' p L) ∧ (IntsO S2 h' q B) ∧ (IntsO (Btw h2.next h3.next) h' u3 k)) _ ⟨A, cs, rfl, K5, (by first | omega | assumption | (simp (disch := first | omega | (simp; done) | fail) [wrap64c, if_pos, if_neg, lw, lA, g_h0, ntp0, csp0, ntq0, csq0, g1, g2, c4, c2b, g3, ntp, csp, ntq, csq, nt3, cs3, e5, f5] <;> omega)), e5, f5, (.refl _ _), (hp.keep k5.1), (hq.keep k5.1), (hu3.keep (ha4.trans k5).1)⟩ ?_
        rintro m tm h' hFr ⟨B, k, rfl, ha, hn, hl, hs, hD, hp', hq', hk⟩
        simp only [FrameL] at hFr
        obtain ⟨f9_0, f10_0, -⟩ := hFr
        try simp (disch := first | omega | (simp; done) | fail) [wrap64c, if_pos, if_neg, lw, lA, g_h0, ntp0, csp0, ntq0, csq0, g1, g2, c4, c2b, g3, ntp, csp, ntq, csq, nt3, cs3, e5, f5] at f9_0 f10_0
        have e9 := f9_0
        have e10 := f10_0
        have hlen := hD.len
        have hoB := hD.ok ho
        have hkn := hD.nn fun x hx => (c3 x hx).1
        have ks := sum_nn hkn
        try simp (disch := first | omega | (simp; done) | fail) [wrap64c, if_pos, if_neg, lw, lA, g_h0, ntp0, csp0, ntq0, csq0, g1, g2, c4, c2b, g3, ntp, csp, ntq, csq, nt3, cs3, e5, f5, e9, e10, hl, hs]
        obtain ⟨u6, h6, hc6, ha6, hu6⟩ := imMoves_ok h' _ L B ⟨p, q, rfl, hp'.rows, hq'.ints⟩ hoB.sh
        refine callG_c (by simp) (by simp) ?ha (hc6) ?_
        (case ha => simp (disch := first | omega | (simp; done) | fail) [wrap64c, if_pos, if_neg, lw, lA, g_h0, ntp0, csp0, ntq0, csq0, g1, g2, c4, c2b, g3, ntp, csp, ntq, csq, nt3, cs3, e5, f5, e9, e10, hl, hs])
        have n6 := ha6.1.1
        have K6 := ha.trans ha6
        have l6 : h6.get h4.next = .cells [u3] true true 1 := by rw [ha6.1.2 _ (by omega)]; exact hl
        have s6 : h6.get (h4.next + 1) = .cells [p, q] true true 1 := by rw [ha6.1.2 _ (by omega)]; exact hs
        have hk6 := hk.keep ha6.1
        try simp (disch := first | omega | (simp; done) | fail) [wrap64c, if_pos, if_neg, lw, lA, g_h0, ntp0, csp0, ntq0, csq0, g1, g2, c4, c2b, g3, ntp, csp, ntq, csq, nt3, cs3, e5, f5, e9, e10, hl, hs, l6, s6]
        obtain ⟨pp, hpp⟩ : ∃ pp : Int → Bool, pp = (fun x => decide (0 < k.getD x.toNat 0)) := ⟨_, rfl⟩
        have hix := indexFuncW_ok h6 u6 (movesL L B) 71 #[] #[.pointer (some ⟨h4.next, 0, none⟩)] pp hu6.ints (by simp) (fun x hx => by
          obtain ⟨i, hi, rfl⟩ := List.getElem_of_mem hx
          obtain ⟨j, e, hj, _⟩ := movesL_get hi
          rw [e, hpp]
          exact reached2_ok h6 h4.next u3 k (j : Int) _ true l6 hk6 (by omega) (by omega))
        refine callG_c (by simp) (by simp) ?ha (hix) ?_
        (case ha => simp (disch := first | omega | (simp; done) | fail) [wrap64c, if_pos, if_neg, lw, lA, g_h0, ntp0, csp0, ntq0, csq0, g1, g2, c4, c2b, g3, ntp, csp, ntq, csq, nt3, cs3, e5, f5, e9, e10, hl, hs, l6, s6])
        have hrg := idxW_range pp (movesL L B)
        by_cases c6 : idxW pp (movesL L B) < 0
        · have hst : Stuck L B k := fun i hi hc => by
            have hm : (i : Int) ∈ movesL L B := List.mem_map.2 ⟨i, List.mem_filter.2 ⟨by simpa using hi, hc⟩, rfl⟩
            have := idxW_neg _ _ c6 _ hm
            rw [hpp] at this
            simp at this
            simpa using this
          try simp (disch := first | omega | (simp; done) | fail) [wrap64c, if_pos, if_neg, lw, lA, g_h0, ntp0, csp0, ntq0, csq0, g1, g2, c4, c2b, g3, ntp, csp, ntq, csq, nt3, cs3, e5, f5, e9, e10, hl, hs, l6, s6, c6]
          refine callG_c (by simp) (by simp) ?ha (slMax_ok h6 u3 k hk6.ints (by have := (good_of c1).1.1; omega)) ?_
          (case ha => simp (disch := first | omega | (simp; done) | fail) [wrap64c, if_pos, if_neg, lw, lA, g_h0, ntp0, csp0, ntq0, csq0, g1, g2, c4, c2b, g3, ntp, csp, ntq, csq, nt3, cs3, e5, f5, e9, e10, hl, hs, l6, s6, c6])
          try simp (disch := first | omega | (simp; done) | fail) [wrap64c, if_pos, if_neg, lw, lA, g_h0, ntp0, csp0, ntq0, csq0, g1, g2, c4, c2b, g3, ntp, csp, ntq, csq, nt3, cs3, e5, f5, e9, e10, hl, hs, l6, s6, c6]
          rw [maxL_zero (by have := (good_of c1).1.1; omega) hkn, ← reB_eq hG hD hst]
          exact done_ret rfl (by simp [reG_true hG, K6.1])
        · obtain ⟨j, hj⟩ : ∃ j : Nat, idxW pp (movesL L B) = (j : Int) := ⟨(idxW pp (movesL L B)).toNat, by omega⟩
          have hjm : j < (movesL L B).length := by omega
          obtain ⟨i, ei, hi, hci⟩ := movesL_get hjm
          have hpos := idxW_pos pp (movesL L B) j hjm hj
          rw [ei, hpp] at hpos
          have hik : i < k.length := by omega
          have hkp : 0 < k[i] := by simpa [hik] using hpos
          have hki := hD.le i
          have ek1 : k.getD i 0 = k[i] := by simp [hik]
          have ek2 : cs.getD i 0 = cs[i]'(by omega) := by simp [show i < cs.length by omega]
          have hcsi := c3 _ (List.getElem_mem (show i < cs.length by omega))
          have ei' := ei
          try simp (disch := first | omega | (simp; done) | fail) [wrap64c, if_pos, if_neg, lw, lA, g_h0, ntp0, csp0, ntq0, csq0, g1, g2, c4, c2b, g3, ntp, csp, ntq, csq, nt3, cs3, e5, f5, e9, e10, hl, hs, l6, s6, c6, hj, ei']
          obtain ⟨u7, h7, hc7, ha7, hu7⟩ := imMoves_ok h6 _ L B ⟨p, q, rfl, (hp'.keep ha6.1).rows, (hq'.keep ha6.1).ints⟩ hoB.sh
          refine callG_c (by simp) (by simp) ?ha (hc7) ?_
          (case ha => simp (disch := first | omega | (simp; done) | fail) [wrap64c, if_pos, if_neg, lw, lA, g_h0, ntp0, csp0, ntq0, csq0, g1, g2, c4, c2b, g3, ntp, csp, ntq, csq, nt3, cs3, e5, f5, e9, e10, hl, hs, l6, s6, c6, hj, ei'])
          have n7 := ha7.1.1
          have K7 := K6.trans ha7
          have l7 : h7.get h4.next = .cells [u3] true true 1 := by rw [ha7.1.2 _ (by omega)]; exact l6
          have s7 : h7.get (h4.next + 1) = .cells [p, q] true true 1 := by rw [ha7.1.2 _ (by omega)]; exact s6
          obtain ⟨o_y, i_y, c_y, cs_y, own_y, ex_y, es_y, q_y, b_y, g_y, l_y, r_y⟩ := (hu7.ints).open ((by omega))
          have z_y : ∀ h2 : i_y < cs_y.length, cs_y[i_y] = _ := fun h2 => r_y 0 ((by omega)) h2
          try simp (disch := first | omega | (simp; done) | fail) [wrap64c, if_pos, if_neg, lw, lA, g_h0, ntp0, csp0, ntq0, csq0, g1, g2, c4, c2b, g3, ntp, csp, ntq, csq, nt3, cs3, e5, f5, e9, e10, hl, hs, l6, s6, c6, hj, ei', l7, s7, q_y, g_y, l_y, r_y, z_y]
          have hp7 := (hp'.keep ha6.1).keep ha7.1
          have hq7 := (hq'.keep ha6.1).keep ha7.1
          obtain ⟨v8, h8, hc8, rfl, hW8, hu8⟩ := imMove_ok S2 S1 h7 p q L B i hp7.read hq7 s3 hoB.sh hoB.small hi
          refine callG_c (by simp) (by simp) ?ha (hc8) ?_
          (case ha => simp (disch := first | omega | (simp; done) | fail) [wrap64c, if_pos, if_neg, lw, lA, g_h0, ntp0, csp0, ntq0, csq0, g1, g2, c4, c2b, g3, ntp, csp, ntq, csq, nt3, cs3, e5, f5, e9, e10, hl, hs, l6, s6, c6, hj, ei', l7, s7, q_y, g_y, l_y, r_y, z_y])
          have n8 := hW8.upd.1
          have K8 : Adds h h8 := K7.wr hW8 fun o e => by have := s2 o e; unfold Btw at this; omega
          have l8 : h8.get h4.next = .cells [u3] true true 1 := by rw [hW8.upd.2 _ (by omega) (fun e => by have := s2 _ e; unfold Btw at this; omega)]; exact l7
          have s8 : h8.get (h4.next + 1) = .cells [p, q] true true 1 := by rw [hW8.upd.2 _ (by omega) (fun e => by have := s2 _ e; unfold Btw at this; omega)]; exact s7
          have hk8 := (hk6.keep ha7.1).same (hW8.upd.same fun x hx hx' => by have := s2 _ hx'; unfold Btw at *; omega)
          have hp8 := hp7.same (hW8.upd.same s3)
          obtain ⟨o_z, i_z, c_z, cs_z, ex_z, q_z, S_z, b_z, g_z, l_z, r_z⟩ := hk8.open ((by omega))
          have z_z : ∀ h2 : i_z < cs_z.length, cs_z[i_z] = _ := fun h2 => r_z 0 ((by omega)) h2
          try simp (disch := first | omega | (simp; done) | fail) [wrap64c, if_pos, if_neg, lw, lA, g_h0, ntp0, csp0, ntq0, csq0, g1, g2, c4, c2b, g3, ntp, csp, ntq, csq, nt3, cs3, e5, f5, e9, e10, hl, hs, l6, s6, c6, hj, ei', l7, s7, q_y, g_y, l_y, r_y, z_y, l8, q_z, g_z, l_z, r_z, z_z]
          have hkis := le_sum hkn (List.getElem_mem hik)
          refine loopK_next _ ?hm ?hf ⟨moveA L B i, k.set i (k[i] - 1), rfl, (by have := S_z.1; exact (by first | exact aK | exact kK)), (by simp; omega), (by simp [l8, show ¬ h4.next = o_z by have := S_z.2; omega]), (by simp [s8, show ¬ h4.next + 1 = o_z by have := S_z.2; omega]), (hD.step hi hci hik hkp), (hp8.same (Same.put (Same.refl _ _) (fun e => by have := s1 _ e; have := S_z.2; unfold Btw at *; omega) _)), (hu8.same (Same.put (Same.refl _ _) (fun e => by have := s2 _ e; have := S_z.2; unfold Btw at *; omega) _)), (hk8.write q_z (by omega) g_z _)⟩
          (case hm => exact (by rw [sum_set hik]; omega))
          (case hf => simp [FrameL, lw, lA, g_h0, ntp0, csp0, ntq0, csq0, g1, g2, c4, c2b, g3, ntp, csp, ntq, csq, nt3, cs3, e5, f5, e9, e10, hl, hs, l6, s6, c6, hj, ei', l7, s7, q_y, g_y, l_y, r_y, z_y, l8, q_z, g_z, l_z, r_z, z_z, f9_0, f10_0])
      · have hG : ¬ ReG L A cs := fun q => c3 q.2.2.2
        have c5 : 0 ≤ idxW pq cs := by
          rcases Int.lt_or_le (idxW pq cs) 0 with hn | hn
          · exact absurd (fun x hx => by have := idxW_neg _ cs hn x hx; rw [hpq] at this; simpa using this) c3
          · exact hn
        rw [decide_eq_true c5] at hcf
        try simp (disch := first | omega | (simp; done) | fail) [wrap64c, if_pos, if_neg, lw, lA, g_h0, ntp0, csp0, ntq0, csq0, g1, g2, c4, c2b]
        refine callG_c (by simp) (by simp) ?ha (hcf) ?_
        (case ha => simp (disch := first | omega | (simp; done) | fail) [wrap64c, if_pos, if_neg, lw, lA, g_h0, ntp0, csp0, ntq0, csq0, g1, g2, c4, c2b])
        try simp (disch := first | omega | (simp; done) | fail) [wrap64c, if_pos, if_neg, lw, lA, g_h0, ntp0, csp0, ntq0, csq0, g1, g2, c4, c2b]
        exact done_ret rfl (by simp [reG_false hG, reB_false hG, K2.1])
    · have c2b : ((cs.length : Int) != (A.length : Int)) = true := by simp [c2]
      have hG : ¬ ReG L A cs := fun q => c2 q.2.2.1
      try simp (disch := first | omega | (simp; done) | fail) [wrap64c, if_pos, if_neg, lw, lA, g_h0, ntp0, csp0, ntq0, csq0, g1, g2, c4, c2b]
      exact done_ret rfl (by simp [reG_false hG, reB_false hG, K2.1])
  · have c4' : (fullR L A []).isSome = false := by simpa using c4
    have hG : ¬ ReG L A cs := fun q => c4 q.2.1
    try simp (disch := first | omega | (simp; done) | fail) [wrap64c, if_pos, if_neg, lw, lA, g_h0, ntp0, csp0, ntq0, csq0, g1, g2, c4, c4']
    exact done_ret rfl (by simp [reG_false hG, reB_false hG, K2.1])
end Go.Proofs.Ytnnjehonbolliaa
namespace Go.Proofs.Ytnnjehonbolliaa
set_option linter.unusedSimpArgs false
set_option linter.unusedVariables false
set_option maxHeartbeats 4000000
open Go Go.Eng
attribute [local irreducible] WD RunD PreD Runs CallOK
theorem ia_same {n : Nat} {h h' : Hp} {v : Value} {xs : List Int} (hs : IntsA n h v xs) (hk : Same (ObjIn v) h h') : IntsA n h' v xs := by
  rcases hs with ⟨a, b⟩ | ⟨o, ex, rfl, g1, g2, g3⟩
  · exact .inl ⟨a, b⟩
  · exact .inr ⟨o, ex, rfl, g1, Nat.lt_of_lt_of_le g2 hk.1, by rw [hk.2 o rfl g2]; exact g3⟩
theorem ia_obj {n : Nat} {h : Hp} {v : Value} {xs : List Int} (hs : IntsA n h v xs) : ∀ o, ObjIn v o → n ≤ o ∧ o < h.next := by
  intro o ho
  rcases hs with ⟨_, rfl⟩ | ⟨p, ex, rfl, g1, g2, g3⟩
  · exact ho.elim
  · cases ho; exact ⟨g1, g2⟩
theorem off_comm {n m : Nat} {h : Hp} {v w : Value} {xs ys : List Int} (hv : IntsA n h v xs) (hw : IntsA m h w ys) (ho : OffF (ObjIn v) w) : OffF (ObjIn w) v := by
  intro o i k c e hf
  rcases hw with ⟨_, rfl⟩ | ⟨p, ex, rfl, _⟩
  · exact hf.elim
  · cases hf
    subst e
    exact ho _ _ _ _ rfl rfl
theorem append_ints2 {P : Program} {n : Nat} {h0 h : Hp} {v y : Value} {xs ys : List Int} {t t' e b : Nat} (hs : IntsA n h v xs) (hy : Ints h y ys) (h1 : elT P t = some e) (h2 : szT P e = some 1) (h3 : zeroT P e = some (.int .i64 0)) (h4 : byT P e = some b)
    (hb : b ≠ 0) (hb8 : b ≤ 8) (h5 : srcT P t' = true) (hl : xs.length + ys.length < 2 ^ 40) (hn : n ≤ h.next) (hA : Adds h0 h) (h0n : h0.next ≤ n) :
    ∃ v' h', appendD P t t' v y h = some (v', h') ∧ IntsA n h' v' (xs ++ ys) ∧ Adds h0 h' ∧ h.next ≤ h'.next ∧ (∀ F : Nat → Prop, OffF F v → Same F h h') ∧ ∀ F : Nat → Prop, (∀ o, F o → o < h.next) → OffF F v → OffF F v' := by
  have hsrc := hy.src
  by_cases hy0 : ys.length = 0
  · have := List.length_eq_zero_iff.1 hy0
    subst this
    refine ⟨v, h, ?_, by simpa using hs, hA, Nat.le_refl _, fun F _ => Same.refl _ _, fun F _ h => h⟩
    simp only [appendD, h1, h2, h3, h4, hsrc, h5]
    rcases hs with ⟨rfl, rfl⟩ | ⟨o, ex, rfl, g1, g2, g3⟩ <;> simp [Value.cells, hb]
  have hbb : (xs.length + ys.length) * b ≤ 140737488355328 := Nat.le_trans (Nat.mul_le_mul (Nat.le_of_lt hl) hb8) (by decide)
  have hbb1 : ys.length * b ≤ 140737488355328 := Nat.le_trans (Nat.mul_le_mul_right _ (by omega)) hbb
  have hne : ys ≠ [] := fun e => hy0 (by rw [e]; rfl)
  rcases hs with ⟨rfl, rfl⟩ | ⟨o, ex, rfl, g1, g2, g3⟩
  · refine ⟨.slice (some ⟨h.next, 0, none⟩) ys.length ys.length, h.alloc (.cells (ys.map (.int .i64)) true false 1), ?_, .inr ⟨h.next, false, rfl, hn, Nat.lt_succ_self _, by simp⟩, by simp [hA], Nat.le_succ _, fun F _ => ⟨by simp, fun o _ ho => by simp [Nat.ne_of_lt ho]⟩, fun F hF _ => .mk fun hf => by have := hF _ hf; omega⟩
    simp only [appendD, h1, h2, h3, h4, hsrc, h5]
    simp [Value.cells, hb, hbb1, hne]
  · refine ⟨.slice (some ⟨h.next, 0, none⟩) (xs.length + ys.length) (xs.length + ys.length), growHp h o ex (.cells (xs.map (.int .i64) ++ ys.map (.int .i64)) true false 1), ?_, .inr ⟨h.next, false, by simp, hn, ?_, ?_⟩, hA.grow (by omega) (fun _ => rfl), ?_, fun F hF => ⟨?_, fun i hi hin => ?_⟩, fun F hF _ => .mk fun hf => by have := hF _ hf; omega⟩
    · simp only [appendD, h1, h2, h3, h4, hsrc, h5]
      have ht : (xs.map (Value.int .i64)).take xs.length = xs.map (.int .i64) := List.take_of_length_le (by simp)
      have hlt : 0 < ys.length := by omega
      simp [Value.cells, hb, g3, hbb, ht, hne, hlt]
    · cases ex <;> simp [growHp]
    · cases ex <;> simp [growHp]
    · cases ex <;> simp [growHp]
    · cases ex <;> simp [growHp]
    · have e1 : i ≠ h.next := by omega
      have e2 : i ≠ o := fun e => hF o 0 _ _ rfl (e ▸ hi)
      cases ex <;> simp [growHp, e1, e2]
theorem app1of2 {n : Nat} {h0 h : Hp} {v w : Value} {xs ys : List Int} (hv : IntsA n h v xs) (hw : IntsA n h w ys) (ho : OffF (ObjIn w) v) (x : Int) (hl : xs.length < 2 ^ 40) (hn : n ≤ h.next) (hA : Adds h0 h) (h0n : h0.next ≤ n) :
    ∃ v' h', appendD Try.prog 25 25 v (.slice (some ⟨h.next, 0, none⟩) 1 1) (h.alloc (.cells [.int .i64 x] true true 1)) = some (v', h') ∧ IntsA n h' v' (xs ++ [x]) ∧ IntsA n h' w ys ∧ OffF (ObjIn w) v' ∧ Adds h0 h' ∧ h.next < h'.next ∧ (∀ o, o < n → h'.get o = h.get o) ∧ ∀ o, o < h.next → OffF (fun x => x = o) v → h'.get o = h.get o := by
  obtain ⟨v', h', g1, g2, g3, g4, g5⟩ := appI2 hv x hl hn hA h0n
  have g6 := g5 (ObjIn w) (fun o h => (ia_obj hw o h).2) ho
  have g7 := g5 (fun o => o < n) (fun o h => by omega) (fun o i m c e hf => by
    rcases hv with ⟨_, e'⟩ | ⟨p, ex, e', q1, q2, q3⟩
    · rw [e'] at e; cases e
    · rw [e'] at e; cases e; omega)
  exact ⟨v', h', g1, g2, ia_same hw g6.1, g6.2, g3, g4, fun o hon => g7.1.2 o hon (by omega), fun o hl ho => (g5 (fun x => x = o) (fun x e => by omega) ho).1.2 o rfl hl⟩
end Go.Proofs.Ytnnjehonbolliaa
namespace Go.Proofs.Ytnnjehonbolliaa
set_option linter.unusedSimpArgs false
set_option linter.unusedVariables false
set_option maxHeartbeats 4000000
open Go Go.Eng
attribute [local irreducible] WD RunD PreD Runs CallOK
def SpL (h h' : Hp) (u1 u2 : Value) (N : Int) (X P : List Int) : Prop := ∃ c, h.next ≤ c ∧ c ≤ h'.next ∧ SpaceO (Btw c h'.next) h' u1 N X ∧ IntsO (Btw h.next c) h' u2 P
theorem rsN_no {L : List (List Int)} {A : List Int} (h : rsB L A = false) : rsN L A = 0 ∧ rsX L A = [] ∧ rsP L A = [] := by simp [rsN, rsX, rsP, h]
theorem shl_op (a s : Nat) (ha : a ≤ 7) (hs : s ≤ 7) : bShl .i64 ((bit a : Nat) - 1 : Int) (s : Int) = ((shN a s : Nat) : Int) := by
  have := bit7 ha
  have e : ((bit a : Nat) : Int) - 1 = ((bit a - 1 : Nat) : Int) := by omega
  rw [e, bShl_nat _ _ (by omega) (by omega) (by omega) (by omega)]; simp [shN]
theorem Rn.zero_of {L : List (List Int)} {A x B : List Int} (h : Rn L A x B) (hx : x.sum ≤ 0) : x = List.replicate A.length 0 := by
  refine (eq_of_sum (by simp [h.len.2]) (fun i => ?_) (by simpa using hx)).symm
  have h1 := h.nn i
  have h2 : (List.replicate A.length (0 : Int)).getD i 0 = 0 := by simp [List.getD_eq_getElem?_getD, List.getElem?_replicate]; split <;> simp
  omega
theorem ia_box {n o : Nat} {h : Hp} {w a s : Value} {xs : List Int} {p : Option Addr} {i c : Nat} (hw : IntsA n h w xs) (hg : h.get o = .cells [a, s] true true 1) (hs : s = .slice p i c) : ¬ ObjIn w o := by
  intro ho
  rcases hw with ⟨_, rfl⟩ | ⟨q, ex, rfl, g1, g2, g3⟩
  · exact ho
  · cases ho
    rw [hg] at g3
    have e := congrArg (fun l => (match l with | AObj.cells c _ _ _ => c[1]? | _ => none)) g3
    simp only [List.getElem?_cons_succ, List.getElem?_cons_zero, List.getElem?_map] at e
    rw [hs] at e
    cases h1 : xs[1]? with
    | none => rw [h1] at e; cases e
    | some y => rw [h1] at e; cases e
theorem ia_form {n : Nat} {h : Hp} {w : Value} {xs : List Int} (hw : IntsA n h w xs) : ∃ p i c, w = .slice p i c := by
  rcases hw with ⟨_, rfl⟩ | ⟨q, ex, rfl, _⟩
  · exact ⟨_, _, _, rfl⟩
  · exact ⟨_, _, _, rfl⟩
theorem specRS_ok (h : Hp) (v : Value) (L : List (List Int)) (A : List Int) (hv : Chips h v L A) :
    ∃ v' h', CallOK Try.prog 35 #[v] h v' h' ∧ Adds h h' ∧ ∃ u1 u2, v' = .tuple #[u1, u2, .bool (rsB L A)] ∧ SpL h h' u1 u2 (rsN L A) (rsX L A) (rsP L A) := by
  refine callY_L (args := [v]) 112 _ [.cell 2 48, .tmp 3, .tmp 4] Try.func35 rfl rfl rfl ?_
  have hv0 := hv
  obtain ⟨a, b, rfl, hL, hA⟩ := hv
  have lA := hA.lenD
  refine WD_first ?_
  try simp (disch := first | omega | (simp; done) | fail) [wrap64c, if_pos, if_neg, opAnd, opOr, opXor, opDiff, opShr, opBit, lA]
  refine stopK_heap fun h0 q_h0 => ?_
  refine stopK_go ?_
  have k0 : Adds h h0 := by rw [q_h0]; exact (by first | exact aK | exact kK)
  have n0 : h0.next = h.next + 2 := by simp [q_h0]
  have gc0 : h0.get h.next = .cells [a, b] true true 1 := by simp [q_h0]
  have gz0 : h0.get (h.next + 1) = .cells [.int .i64 0, .slice none 0 0] true true 1 := by simp [q_h0]
  try simp (disch := first | omega | (simp; done) | fail) [wrap64c, if_pos, if_neg, opAnd, opOr, opXor, opDiff, opShr, opBit, lA, gc0, gz0]
  refine callG_c (by simp) (by simp) ?ha (waGood_ok h0 _ L A (hv0.keep k0.1)) ?_
  (case ha => simp (disch := first | omega | (simp; done) | fail) [wrap64c, if_pos, if_neg, opAnd, opOr, opXor, opDiff, opShr, opBit, lA, gc0, gz0])
  by_cases c1 : goodB L A = true
  case neg =>
    have c1' : goodB L A = false := by simpa using c1
    have hk : rsB L A = false := by simp [rsB, countsR, fullR, c1, fst?]
    try simp (disch := first | omega | (simp; done) | fail) [wrap64c, if_pos, if_neg, opAnd, opOr, opXor, opDiff, opShr, opBit, lA, gc0, gz0, c1, c1', putCells]
    refine done_ret (by simp [putCells, gz0]; rfl) ⟨by have := k0; exact (by first | exact aK | exact kK), .agg #[.int .i64 0, .slice none 0 0], .slice none 0 0, by rw [hk]; rfl, _, by have := k0.1.1; simp; omega, Nat.le_refl _, ?_, ?_⟩
    · rw [(rsN_no hk).1, (rsN_no hk).2.1]
      exact .nil _ _
    · rw [(rsN_no hk).2.2]
      exact .nil _ _
  have ho := (good_of c1).ok
  have h5 := ho.sh.le
  try simp (disch := first | omega | (simp; done) | fail) [wrap64c, if_pos, if_neg, opAnd, opOr, opXor, opDiff, opShr, opBit, lA, gc0, gz0, c1]
  obtain ⟨v1, h1, hc1, ha1, u1, u2, rfl, hu1, hu2⟩ := waFull_ok h0 _ (.slice none 0 0) L A [] (hv0.keep k0.1) (Ints.nil _) ho (by simp)
  have eB : fullR L A [] = fullA L [] 61 [] A := if_pos c1
  rw [← eB] at hc1 hu1
  refine callG_c (by simp) (by simp) ?ha (hc1) ?_
  (case ha => simp (disch := first | omega | (simp; done) | fail) [wrap64c, if_pos, if_neg, opAnd, opOr, opXor, opDiff, opShr, opBit, lA, gc0, gz0, c1])
  have n1 := ha1.1.1
  have K1 := k0.trans ha1
  have gc1 : h1.get h.next = .cells [a, b] true true 1 := by rw [ha1.1.2 _ (by omega)]; exact gc0
  have gz1 : h1.get (h.next + 1) = .cells [.int .i64 0, .slice none 0 0] true true 1 := by rw [ha1.1.2 _ (by omega)]; exact gz0
  cases hf : fullR L A [] with
  | none =>
    have hf' := hf
    have hk : rsB L A = false := by simp [rsB, countsR, hf, fst?]
    try simp (disch := first | omega | (simp; done) | fail) [wrap64c, if_pos, if_neg, opAnd, opOr, opXor, opDiff, opShr, opBit, lA, gc0, gz0, c1, gc1, gz1, hf', putCells]
    refine done_ret (by simp [putCells, gz1]; rfl) ⟨by have := K1; exact (by first | exact aK | exact kK), .agg #[.int .i64 0, .slice none 0 0], .slice none 0 0, by rw [hk]; rfl, _, by have := K1.1.1; simp; omega, Nat.le_refl _, ?_, ?_⟩
    · rw [(rsN_no hk).1, (rsN_no hk).2.1]
      exact .nil _ _
    · rw [(rsN_no hk).2.2]
      exact .nil _ _
  | some p =>
  obtain ⟨run, E⟩ := p
  have hf' := hf
  have f := fullR_fin (by simp) hf
  have hR : run.length ≤ 60 := (fullR_len (by simp) hf).1
  have hrb : ∀ x ∈ run, 0 ≤ x ∧ x < A.length := (fullA_run (L := L) (A := A) (run := []) (cs := []) (n := 61) (r := run) (B := E) (by simp) (by rw [← eB]; exact hf) (by simp) (by simp)).2.1
  obtain ⟨r1, r2, r3, r4, r5, r6, r7⟩ := rs_full hf ho.sh
  rw [hf] at hu1
  have hfr : fRun (some (run, E)) = run := rfl
  have lu1 := hu1.lenD
  have nt1 := hu1.nt
  cases c2 : sizeB (run.length : Int)
  · have hk : rsB L A = false := by rw [r7, c2]
    try simp (disch := first | omega | (simp; done) | fail) [wrap64c, if_pos, if_neg, opAnd, opOr, opXor, opDiff, opShr, opBit, lA, gc0, gz0, c1, gc1, gz1, hf', hfr, lu1, nt1, c2]
    refine callG_c (by simp) (by simp) ?ha (spItems_ok h1 (run.length : Int)) ?_
    (case ha => simp (disch := first | omega | (simp; done) | fail) [wrap64c, if_pos, if_neg, opAnd, opOr, opXor, opDiff, opShr, opBit, lA, gc0, gz0, c1, gc1, gz1, hf', hfr, lu1, nt1, c2])
    try simp (disch := first | omega | (simp; done) | fail) [wrap64c, if_pos, if_neg, opAnd, opOr, opXor, opDiff, opShr, opBit, lA, gc0, gz0, c1, gc1, gz1, hf', hfr, lu1, nt1, c2, putCells]
    refine done_ret (by simp [putCells, gz1]; rfl) ⟨by have := K1; exact (by first | exact aK | exact kK), .agg #[.int .i64 0, .slice none 0 0], .slice none 0 0, by rw [hk]; rfl, _, by have := K1.1.1; simp; omega, Nat.le_refl _, ?_, ?_⟩
    · rw [(rsN_no hk).1, (rsN_no hk).2.1]
      exact .nil _ _
    · rw [(rsN_no hk).2.2]
      exact .nil _ _
  have hk : rsB L A = true := by rw [r7, c2]
  have hR7 : 1 ≤ run.length ∧ run.length ≤ 7 := by obtain ⟨m, h1, h2, h3⟩ := sizeB_true c2; omega
  try simp (disch := first | omega | (simp; done) | fail) [wrap64c, if_pos, if_neg, opAnd, opOr, opXor, opDiff, opShr, opBit, lA, gc0, gz0, c1, gc1, gz1, hf', hfr, lu1, nt1, c2]
  refine callG_c (by simp) (by simp) ?ha (spItems_ok h1 (run.length : Int)) ?_
  (case ha => simp (disch := first | omega | (simp; done) | fail) [wrap64c, if_pos, if_neg, opAnd, opOr, opXor, opDiff, opShr, opBit, lA, gc0, gz0, c1, gc1, gz1, hf', hfr, lu1, nt1, c2])
  try simp (disch := first | omega | (simp; done) | fail) [wrap64c, if_pos, if_neg, opAnd, opOr, opXor, opDiff, opShr, opBit, lA, gc0, gz0, c1, gc1, gz1, hf', hfr, lu1, nt1, c2]
  obtain ⟨u3, h3, hc3, ha3, hu3⟩ := waCounts_ok h1 u1 run A.length hu1.ints h5 hrb hR
  refine callG_c (by simp) (by simp) ?ha (hc3) ?_
  (case ha => simp (disch := first | omega | (simp; done) | fail) [wrap64c, if_pos, if_neg, opAnd, opOr, opXor, opDiff, opShr, opBit, lA, gc0, gz0, c1, gc1, gz1, hf', hfr, lu1, nt1, c2])
  have n3 := ha3.1.1
  have K3 := K1.trans ha3
  have gc3 : h3.get h.next = .cells [a, b] true true 1 := by rw [ha3.1.2 _ (by omega)]; exact gc1
  have gz3 : h3.get (h.next + 1) = .cells [.int .i64 0, .slice none 0 0] true true 1 := by rw [ha3.1.2 _ (by omega)]; exact gz1
  rw [← r1] at hu3
  obtain ⟨F, hF⟩ : ∃ F, F = rsF L A := ⟨_, rfl⟩
  rw [← hF] at hu3 r2 r3 r4 r5 r6
  have lu3 := hu3.lenD
  have lx := r3
  try simp (disch := first | omega | (simp; done) | fail) [wrap64c, if_pos, if_neg, opAnd, opOr, opXor, opDiff, opShr, opBit, lA, gc0, gz0, c1, gc1, gz1, hf', hfr, lu1, nt1, c2, lu3, lx]
  refine WD_loopC [1, 2, 5, 44, 45] (fun m tm h' => ∃ i p q, m = A.length - i ∧ tm 9 = p ∧ tm 10 = q ∧ tm 46 = .int .i64 (i : Int) ∧ (i ≤ A.length) ∧ (Keeps h3 h') ∧ (Adds h h') ∧ (IntsA h3.next h' p (placesN F i)) ∧ (IntsA h3.next h' q (startsL F i)) ∧ (OffF (ObjIn p) q)) _ ⟨0, .slice none 0 0, .slice none 0 0, rfl, (by simp (disch := first | omega | (simp; done) | fail) [wrap64c, if_pos, if_neg, opAnd, opOr, opXor, opDiff, opShr, opBit, lA, gc0, gz0, c1, gc1, gz1, hf', hfr, lu1, nt1, c2, lu3, lx]), (by simp (disch := first | omega | (simp; done) | fail) [wrap64c, if_pos, if_neg, opAnd, opOr, opXor, opDiff, opShr, opBit, lA, gc0, gz0, c1, gc1, gz1, hf', hfr, lu1, nt1, c2, lu3, lx]), (by simp (disch := first | omega | (simp; done) | fail) [wrap64c, if_pos, if_neg, opAnd, opOr, opXor, opDiff, opShr, opBit, lA, gc0, gz0, c1, gc1, gz1, hf', hfr, lu1, nt1, c2, lu3, lx]), (by first | omega | assumption | (simp (disch := first | omega | (simp; done) | fail) [wrap64c, if_pos, if_neg, opAnd, opOr, opXor, opDiff, opShr, opBit, lA, gc0, gz0, c1, gc1, gz1, hf', hfr, lu1, nt1, c2, lu3, lx] <;> omega)), (Keeps.refl _), K3, (.nil _ _), (.nil _ _), (OffF.nil _ _ _)⟩ ?_
  rintro m tm h' hFr ⟨i, p, q, rfl, e9, e10, e46, hi, ha, hA4, hp, hq, hoff⟩
  simp only [FrameL] at hFr
  obtain ⟨f1_0, f2_0, f5_0, f44_0, f45_0, -⟩ := hFr
  try simp (disch := first | omega | (simp; done) | fail) [wrap64c, if_pos, if_neg, opAnd, opOr, opXor, opDiff, opShr, opBit, lA, gc0, gz0, c1, gc1, gz1, hf', hfr, lu1, nt1, c2, lu3, lx] at f1_0 f2_0 f5_0 f44_0 f45_0
  have e1 := f1_0
  have e2 := f2_0
  have e5 := f5_0
  have e44 := f44_0
  have e45 := f45_0
  rename Hp => h4
  have n4 := ha.1
  have hpl : (placesN F i).length ≤ run.length := by rcases r5 i with h | h; exact h; omega
  have lp := hp.lenD
  have ntp := hp.nt
  have ntq := hq.nt
  by_cases hlt : i < A.length
  · obtain ⟨o_x, i_x, c_x, cs_x, own_x, ex_x, es_x, q_x, b_x, g_x, l_x, r_x⟩ := ((hu3.keep ha).ints).open ((by omega))
    have z_x : ∀ h2 : i_x < cs_x.length, cs_x[i_x] = _ := fun h2 => r_x 0 ((by omega)) h2
    have hiF : i < F.length := by omega
    have hFi := r4 _ (List.getElem_mem hiF)
    have hpl2 : (placesN F (i + 1)).length ≤ run.length := by rcases r5 (i + 1) with h | h; exact h; omega
    have hsl := startsL_len F i
    rw [placesN_succ, List.length_append, List.length_replicate, getD_at hiF] at hpl2
    try simp (disch := first | omega | (simp; done) | fail) [wrap64c, if_pos, if_neg, opAnd, opOr, opXor, opDiff, opShr, opBit, lA, gc0, gz0, c1, gc1, gz1, hf', hfr, lu1, nt1, c2, lu3, lx, e1, e2, e5, e9, e10, e44, e45, e46, lp, ntp, ntq, hlt, q_x, g_x, l_x, r_x, z_x, hiF]
    obtain ⟨q2, h5', hap, hq2, hp2, hoff2, hA5, n5, hs5, _⟩ := app1of2 hq hp hoff ((placesN F i).length : Int) (by omega) (by omega) hA4 (by have := K3.1.1; omega)
    try simp (disch := first | omega | (simp; done) | fail) [wrap64c, if_pos, if_neg, opAnd, opOr, opXor, opDiff, opShr, opBit, lA, gc0, gz0, c1, gc1, gz1, hf', hfr, lu1, nt1, c2, lu3, lx, e1, e2, e5, e9, e10, e44, e45, e46, lp, ntp, ntq, hlt, q_x, g_x, l_x, r_x, z_x, hiF, hap]
    obtain ⟨c, hc⟩ : ∃ c : Nat, F[i] = (c : Int) := ⟨F[i].toNat, by omega⟩
    have hcc := hc
    refine WD_loopC [1, 2, 5, 10, 11, 44, 45, 46] (fun m tm h' => ∃ j p2, m = c - j ∧ tm 9 = p2 ∧ tm 12 = .int .i64 ((c : Int) - j) ∧ (j ≤ c) ∧ (Keeps h3 h') ∧ (Adds h h') ∧ (IntsA h3.next h' p2 (placesN F i ++ List.replicate j (i : Int))) ∧ (IntsA h3.next h' q2 (startsL F (i + 1))) ∧ (OffF (ObjIn p2) q2)) _ ⟨0, p, rfl, (by simp (disch := first | omega | (simp; done) | fail) [wrap64c, if_pos, if_neg, opAnd, opOr, opXor, opDiff, opShr, opBit, lA, gc0, gz0, c1, gc1, gz1, hf', hfr, lu1, nt1, c2, lu3, lx, e1, e2, e5, e9, e10, e44, e45, e46, lp, ntp, ntq, hlt, q_x, g_x, l_x, r_x, z_x, hiF, hcc]), (by simp (disch := first | omega | (simp; done) | fail) [wrap64c, if_pos, if_neg, opAnd, opOr, opXor, opDiff, opShr, opBit, lA, gc0, gz0, c1, gc1, gz1, hf', hfr, lu1, nt1, c2, lu3, lx, e1, e2, e5, e9, e10, e44, e45, e46, lp, ntp, ntq, hlt, q_x, g_x, l_x, r_x, z_x, hiF, hcc]), (by first | omega | assumption | (simp (disch := first | omega | (simp; done) | fail) [wrap64c, if_pos, if_neg, opAnd, opOr, opXor, opDiff, opShr, opBit, lA, gc0, gz0, c1, gc1, gz1, hf', hfr, lu1, nt1, c2, lu3, lx, e1, e2, e5, e9, e10, e44, e45, e46, lp, ntp, ntq, hlt, q_x, g_x, l_x, r_x, z_x, hiF, hcc] <;> omega)), ⟨by omega, fun o ho => by rw [hs5 o ho]; exact ha.2 o ho⟩, hA5, (by simpa using hp2), (by rw [startsL_succ]; exact hq2), hoff2⟩ ?_
    rintro m tm h' hFr ⟨j, p2, rfl, e9, e12, hj, ha6, hA6, hp6, hq6, hoff6⟩
    simp only [FrameL] at hFr
    obtain ⟨f1_1, f2_1, f5_1, f10_1, f11_1, f44_1, f45_1, f46_1, -⟩ := hFr
    try simp (disch := first | omega | (simp; done) | fail) [wrap64c, if_pos, if_neg, opAnd, opOr, opXor, opDiff, opShr, opBit, lA, gc0, gz0, c1, gc1, gz1, hf', hfr, lu1, nt1, c2, lu3, lx, e1, e2, e5, e9, e10, e44, e45, e46, lp, ntp, ntq, hlt, q_x, g_x, l_x, r_x, z_x, hiF, hcc] at f1_1 f2_1 f5_1 f10_1 f11_1 f44_1 f45_1 f46_1
    have e1 := f1_1
    have e2 := f2_1
    have e5 := f5_1
    have e10 := f10_1
    have e11 := f11_1
    have e44 := f44_1
    have e45 := f45_1
    have e46 := f46_1
    rename Hp => h6
    have n6 := ha6.1
    have ntp6 := hp6.nt
    by_cases hjc : j < c
    · have hpos : (0 : Int) < (c : Int) - j := by omega
      try simp (disch := first | omega | (simp; done) | fail) [wrap64c, if_pos, if_neg, opAnd, opOr, opXor, opDiff, opShr, opBit, lA, gc0, gz0, c1, gc1, gz1, hf', hfr, lu1, nt1, c2, lu3, lx, e1, e2, e5, e9, e10, e44, e45, e46, lp, ntp, ntq, hlt, q_x, g_x, l_x, r_x, z_x, hiF, hcc, e11, e12, ntp6, hpos]
      obtain ⟨p7, h7, hap7, hp7, hq7, hoff7, hA7, n7, hs7, _⟩ := app1of2 hp6 hq6 (off_comm hp6 hq6 hoff6) (i : Int) (by simp; omega) (by omega) hA6 (by have := K3.1.1; omega)
      try simp (disch := first | omega | (simp; done) | fail) [wrap64c, if_pos, if_neg, opAnd, opOr, opXor, opDiff, opShr, opBit, lA, gc0, gz0, c1, gc1, gz1, hf', hfr, lu1, nt1, c2, lu3, lx, e1, e2, e5, e9, e10, e44, e45, e46, lp, ntp, ntq, hlt, q_x, g_x, l_x, r_x, z_x, hiF, hcc, e11, e12, ntp6, hpos, hap7]
      refine loopK_next _ ?hm ?hf ⟨j + 1, p7, rfl, (by simp (disch := first | omega | (simp; done) | fail) [wrap64c, if_pos, if_neg, opAnd, opOr, opXor, opDiff, opShr, opBit, lA, gc0, gz0, c1, gc1, gz1, hf', hfr, lu1, nt1, c2, lu3, lx, e1, e2, e5, e9, e10, e44, e45, e46, lp, ntp, ntq, hlt, q_x, g_x, l_x, r_x, z_x, hiF, hcc, e11, e12, ntp6, hpos] <;> omega), (by simp; omega), (by first | omega | assumption | (simp (disch := first | omega | (simp; done) | fail) [wrap64c, if_pos, if_neg, opAnd, opOr, opXor, opDiff, opShr, opBit, lA, gc0, gz0, c1, gc1, gz1, hf', hfr, lu1, nt1, c2, lu3, lx, e1, e2, e5, e9, e10, e44, e45, e46, lp, ntp, ntq, hlt, q_x, g_x, l_x, r_x, z_x, hiF, hcc, e11, e12, ntp6, hpos] <;> omega)), ⟨by omega, fun o ho => by rw [hs7 o ho]; exact ha6.2 o ho⟩, (by first | omega | assumption | (simp (disch := first | omega | (simp; done) | fail) [wrap64c, if_pos, if_neg, opAnd, opOr, opXor, opDiff, opShr, opBit, lA, gc0, gz0, c1, gc1, gz1, hf', hfr, lu1, nt1, c2, lu3, lx, e1, e2, e5, e9, e10, e44, e45, e46, lp, ntp, ntq, hlt, q_x, g_x, l_x, r_x, z_x, hiF, hcc, e11, e12, ntp6, hpos] <;> omega)), (by rw [List.replicate_succ', ← List.append_assoc]; exact hp7), (by first | omega | assumption | (simp (disch := first | omega | (simp; done) | fail) [wrap64c, if_pos, if_neg, opAnd, opOr, opXor, opDiff, opShr, opBit, lA, gc0, gz0, c1, gc1, gz1, hf', hfr, lu1, nt1, c2, lu3, lx, e1, e2, e5, e9, e10, e44, e45, e46, lp, ntp, ntq, hlt, q_x, g_x, l_x, r_x, z_x, hiF, hcc, e11, e12, ntp6, hpos] <;> omega)), (off_comm hq7 hp7 hoff7)⟩
      (case hm => first | omega | (simp; omega))
      (case hf => simp [FrameL, lA, gc0, gz0, c1, gc1, gz1, hf', hfr, lu1, nt1, c2, lu3, lx, e1, e2, e5, e9, e10, e44, e45, e46, lp, ntp, ntq, hlt, q_x, g_x, l_x, r_x, z_x, hiF, hcc, e11, e12, ntp6, hpos, f1_1, f2_1, f5_1, f10_1, f11_1, f44_1, f45_1, f46_1])
    · have hjj : j = c := by omega
      have hpos : ¬ (0 : Int) < (c : Int) - j := by omega
      try simp (disch := first | omega | (simp; done) | fail) [wrap64c, if_pos, if_neg, opAnd, opOr, opXor, opDiff, opShr, opBit, lA, gc0, gz0, c1, gc1, gz1, hf', hfr, lu1, nt1, c2, lu3, lx, e1, e2, e5, e9, e10, e44, e45, e46, lp, ntp, ntq, hlt, q_x, g_x, l_x, r_x, z_x, hiF, hcc, e11, e12, ntp6, hpos]
      refine loopK_next _ ?hm ?hf ⟨i + 1, p2, q2, rfl, (by simp (disch := first | omega | (simp; done) | fail) [wrap64c, if_pos, if_neg, opAnd, opOr, opXor, opDiff, opShr, opBit, lA, gc0, gz0, c1, gc1, gz1, hf', hfr, lu1, nt1, c2, lu3, lx, e1, e2, e5, e9, e10, e44, e45, e46, lp, ntp, ntq, hlt, q_x, g_x, l_x, r_x, z_x, hiF, hcc, e11, e12, ntp6, hpos] <;> omega), (by simp (disch := first | omega | (simp; done) | fail) [wrap64c, if_pos, if_neg, opAnd, opOr, opXor, opDiff, opShr, opBit, lA, gc0, gz0, c1, gc1, gz1, hf', hfr, lu1, nt1, c2, lu3, lx, e1, e2, e5, e9, e10, e44, e45, e46, lp, ntp, ntq, hlt, q_x, g_x, l_x, r_x, z_x, hiF, hcc, e11, e12, ntp6, hpos] <;> omega), (by simp (disch := first | omega | (simp; done) | fail) [wrap64c, if_pos, if_neg, opAnd, opOr, opXor, opDiff, opShr, opBit, lA, gc0, gz0, c1, gc1, gz1, hf', hfr, lu1, nt1, c2, lu3, lx, e1, e2, e5, e9, e10, e44, e45, e46, lp, ntp, ntq, hlt, q_x, g_x, l_x, r_x, z_x, hiF, hcc, e11, e12, ntp6, hpos] <;> omega), (by first | omega | assumption | (simp (disch := first | omega | (simp; done) | fail) [wrap64c, if_pos, if_neg, opAnd, opOr, opXor, opDiff, opShr, opBit, lA, gc0, gz0, c1, gc1, gz1, hf', hfr, lu1, nt1, c2, lu3, lx, e1, e2, e5, e9, e10, e44, e45, e46, lp, ntp, ntq, hlt, q_x, g_x, l_x, r_x, z_x, hiF, hcc, e11, e12, ntp6, hpos] <;> omega)), (by first | omega | assumption | (simp (disch := first | omega | (simp; done) | fail) [wrap64c, if_pos, if_neg, opAnd, opOr, opXor, opDiff, opShr, opBit, lA, gc0, gz0, c1, gc1, gz1, hf', hfr, lu1, nt1, c2, lu3, lx, e1, e2, e5, e9, e10, e44, e45, e46, lp, ntp, ntq, hlt, q_x, g_x, l_x, r_x, z_x, hiF, hcc, e11, e12, ntp6, hpos] <;> omega)), (by first | omega | assumption | (simp (disch := first | omega | (simp; done) | fail) [wrap64c, if_pos, if_neg, opAnd, opOr, opXor, opDiff, opShr, opBit, lA, gc0, gz0, c1, gc1, gz1, hf', hfr, lu1, nt1, c2, lu3, lx, e1, e2, e5, e9, e10, e44, e45, e46, lp, ntp, ntq, hlt, q_x, g_x, l_x, r_x, z_x, hiF, hcc, e11, e12, ntp6, hpos] <;> omega)), (by rw [placesN_succ, getD_at hiF, hc, Int.toNat_natCast, ← hjj]; exact hp6), (by first | omega | assumption | (simp (disch := first | omega | (simp; done) | fail) [wrap64c, if_pos, if_neg, opAnd, opOr, opXor, opDiff, opShr, opBit, lA, gc0, gz0, c1, gc1, gz1, hf', hfr, lu1, nt1, c2, lu3, lx, e1, e2, e5, e9, e10, e44, e45, e46, lp, ntp, ntq, hlt, q_x, g_x, l_x, r_x, z_x, hiF, hcc, e11, e12, ntp6, hpos] <;> omega)), (by first | omega | assumption | (simp (disch := first | omega | (simp; done) | fail) [wrap64c, if_pos, if_neg, opAnd, opOr, opXor, opDiff, opShr, opBit, lA, gc0, gz0, c1, gc1, gz1, hf', hfr, lu1, nt1, c2, lu3, lx, e1, e2, e5, e9, e10, e44, e45, e46, lp, ntp, ntq, hlt, q_x, g_x, l_x, r_x, z_x, hiF, hcc, e11, e12, ntp6, hpos] <;> omega))⟩
      (case hm => first | omega | (simp; omega))
      (case hf => simp [FrameL, lA, gc0, gz0, c1, gc1, gz1, hf', hfr, lu1, nt1, c2, lu3, lx, e1, e2, e5, e9, e10, e44, e45, e46, lp, ntp, ntq, hlt, q_x, g_x, l_x, r_x, z_x, hiF, hcc, e11, e12, ntp6, hpos, f1_0, f2_0, f5_0, f44_0, f45_0])
  have hie : i = A.length := by omega
  subst hie
  have hP := hp.own (by omega)
  have hQ := hq.own (by simp; omega)
  have gc4 : h4.get h.next = .cells [a, b] true true 1 := by rw [ha.2 _ (by omega)]; exact gc3
  have gz4 : h4.get (h.next + 1) = .cells [.int .i64 0, .slice none 0 0] true true 1 := by rw [ha.2 _ (by omega)]; exact gz3
  have m3 := hA4.1.1
  have csp := hP.cs
  have ntP := hP.nt
  try simp (disch := first | omega | (simp; done) | fail) [wrap64c, if_pos, if_neg, opAnd, opOr, opXor, opDiff, opShr, opBit, lA, gc0, gz0, c1, gc1, gz1, hf', hfr, lu1, nt1, c2, lu3, lx, e1, e2, e5, e9, e10, e44, e45, e46, lp, ntp, ntq, hlt, gc4, csp, ntP, putCells]
  first | refine WY_heap fun h8 q_h8 => ?_ | refine callG_heap fun h8 q_h8 => ?_ | refine callP_heap fun h8 q_h8 => ?_ | refine callS_heap fun h8 q_h8 => ?_ | refine RY_heap fun h8 q_h8 => ?_ | refine PY_heap fun h8 q_h8 => ?_ | refine SY_heap fun h8 q_h8 => ?_ | refine doneY_heap fun h8 q_h8 => ?_ | refine loopK_heap fun h8 q_h8 => ?_ | refine thenY_heap fun h8 q_h8 => ?_ | refine thenM_heap fun h8 q_h8 => ?_
  have k8 : Adds h4 h8 := by rw [q_h8]; exact (by first | exact aK | exact kK)
  have n8 : h8.next = h4.next + 2 := by simp [q_h8]
  have g8 : h8.get (h4.next + 1) = .cells [.int .i64 (run.length : Int), .slice (some ⟨h4.next, 0, none⟩) 1 1] true true 1 := by simp [q_h8]
  have gl8 : h8.get h4.next = .cells [.int .i64 0] true true 1 := by simp [q_h8]
  have gc8 : h8.get h.next = .cells [a, b] true true 1 := by rw [k8.1.2 _ (by omega)]; exact gc4
  have gz8 : h8.get (h.next + 1) = .cells [.int .i64 0, .slice none 0 0] true true 1 := by rw [k8.1.2 _ (by omega)]; exact gz4
  have K8 := hA4.trans k8
  obtain ⟨v9, h9, hc9, ha9, hg9⟩ := waStart_ok ho.sh h8 (.agg #[a, b]) (hv0.keep K8.1)
  have n9 := ha9.1.1
  have A9 := K8.trans ha9
  try simp (disch := first | omega | (simp; done) | fail) [wrap64c, if_pos, if_neg, opAnd, opOr, opXor, opDiff, opShr, opBit, lA, gc0, gz0, c1, gc1, gz1, hf', hfr, lu1, nt1, c2, lu3, lx, e1, e2, e5, e9, e10, e44, e45, e46, lp, ntp, ntq, hlt, gc4, csp, ntP, gc8]
  refine callG_c (by simp) (by simp) ?ha (hc9) ?_
  (case ha => simp (disch := first | omega | (simp; done) | fail) [wrap64c, if_pos, if_neg, opAnd, opOr, opXor, opDiff, opShr, opBit, lA, gc0, gz0, c1, gc1, gz1, hf', hfr, lu1, nt1, c2, lu3, lx, e1, e2, e5, e9, e10, e44, e45, e46, lp, ntp, ntq, hlt, gc4, csp, ntP, gc8])
  have hw9 : IntsA h4.next h9 (.slice (some ⟨h4.next, 0, none⟩) 1 1) (toN [0]) := .inr ⟨h4.next, true, rfl, Nat.le_refl _, by omega, by rw [ha9.1.2 _ (by omega)]; exact gl8⟩
  try simp (disch := first | omega | (simp; done) | fail) [wrap64c, if_pos, if_neg, opAnd, opOr, opXor, opDiff, opShr, opBit, lA, gc0, gz0, c1, gc1, gz1, hf', hfr, lu1, nt1, c2, lu3, lx, e1, e2, e5, e9, e10, e44, e45, e46, lp, ntp, ntq, hlt, gc4, csp, ntP, gc8]
  refine WD_loopC [1, 2, 9, 10, 13, 72] (fun m tm h' => ∃ j w l z Bz, m = run.length - j ∧ tm 14 = z ∧ tm 73 = .int .i64 (j : Int) ∧ (j ≤ run.length) ∧ (Adds h h') ∧ (h9.next ≤ h'.next) ∧ (GL 3 stR Bz h' z (stateS L A j)) ∧ (h'.get h.next = .cells [a, b] true true 1) ∧ (h'.get (h.next + 1) = .cells [.int .i64 0, .slice none 0 0] true true 1) ∧ (h'.get (h4.next + 1) = .cells [.int .i64 (run.length : Int), w] true true 1) ∧ (IntsO (Btw h3.next h4.next) h' p (placesN F A.length)) ∧ (IntsO (Btw h3.next h4.next) h' q (startsL F A.length)) ∧ (IntsA h4.next h' w (toN l)) ∧ (l.Pairwise (· < ·)) ∧ (∀ a ∈ l, a < 128 ∧ ∃ x B, Rn L A x B ∧ setN F x A.length = a) ∧ (∀ x B, Rn L A x B → x.sum ≤ (j : Int) → setN F x A.length ∈ l)) _ ⟨0, _, [0], v9, _, rfl, (by simp (disch := first | omega | (simp; done) | fail) [wrap64c, if_pos, if_neg, opAnd, opOr, opXor, opDiff, opShr, opBit, lA, gc0, gz0, c1, gc1, gz1, hf', hfr, lu1, nt1, c2, lu3, lx, e1, e2, e5, e9, e10, e44, e45, e46, lp, ntp, ntq, hlt, gc4, csp, ntP, gc8]), (by simp (disch := first | omega | (simp; done) | fail) [wrap64c, if_pos, if_neg, opAnd, opOr, opXor, opDiff, opShr, opBit, lA, gc0, gz0, c1, gc1, gz1, hf', hfr, lu1, nt1, c2, lu3, lx, e1, e2, e5, e9, e10, e44, e45, e46, lp, ntp, ntq, hlt, gc4, csp, ntP, gc8]), (by first | omega | assumption | (simp (disch := first | omega | (simp; done) | fail) [wrap64c, if_pos, if_neg, opAnd, opOr, opXor, opDiff, opShr, opBit, lA, gc0, gz0, c1, gc1, gz1, hf', hfr, lu1, nt1, c2, lu3, lx, e1, e2, e5, e9, e10, e44, e45, e46, lp, ntp, ntq, hlt, gc4, csp, ntP, gc8] <;> omega)), A9, (by first | omega | assumption | (simp (disch := first | omega | (simp; done) | fail) [wrap64c, if_pos, if_neg, opAnd, opOr, opXor, opDiff, opShr, opBit, lA, gc0, gz0, c1, gc1, gz1, hf', hfr, lu1, nt1, c2, lu3, lx, e1, e2, e5, e9, e10, e44, e45, e46, lp, ntp, ntq, hlt, gc4, csp, ntP, gc8] <;> omega)), hg9, (by rw [ha9.1.2 _ (by omega)]; exact gc8), (by rw [ha9.1.2 _ (by omega)]; exact gz8), (by rw [ha9.1.2 _ (by omega)]; exact g8), ((hP.keep k8.1).keep ha9.1), ((hQ.keep k8.1).keep ha9.1), hw9, (List.pairwise_singleton _ _), (fun a ha => by simp at ha; subst ha; exact ⟨by decide, _, _, .zero, setN_zero _ _ _⟩), (fun x B hr hx => by rw [hr.zero_of (by simpa using hx), setN_zero]; simp)⟩ ?_
  rintro m tm h' hFr ⟨j, w, l, z, Bz, rfl, e14, e73, hj, hA10, hn10, hz, gc, gz, gb, hpk, hqk, hw, hls, hl1, hl2⟩
  simp only [FrameL] at hFr
  obtain ⟨f1_2, f2_2, f9_2, f10_2, f13_2, f72_2, -⟩ := hFr
  try simp (disch := first | omega | (simp; done) | fail) [wrap64c, if_pos, if_neg, opAnd, opOr, opXor, opDiff, opShr, opBit, lA, gc0, gz0, c1, gc1, gz1, hf', hfr, lu1, nt1, c2, lu3, lx, e1, e2, e5, e9, e10, e44, e45, e46, lp, ntp, ntq, hlt, gc4, csp, ntP, gc8] at f1_2 f2_2 f9_2 f10_2 f13_2 f72_2
  have e1 := f1_2
  have e2 := f2_2
  have e9 := f9_2
  have e10 := f10_2
  have e13 := f13_2
  have e72 := f72_2
  rename Hp => h10
  obtain ⟨hI, _, hcm⟩ := stateS_inv f ho.sh j hj
  have hwI := ia_form hw
  obtain ⟨wp, wi, wc, hwf⟩ := hwI
  by_cases hlj : j < run.length
  case neg =>
    have hje : j = run.length := by omega
    have hlj' : ¬ (j : Int) < (run.length : Int) := by omega
    have hlX : l = runSets L A F := runSets_eq hls hl1 fun x B hr => hl2 x B hr (by have := f.le ho.sh hr; omega)
    have gz' := gz
    have hww := ia_obj hw
    have hll : l.length ≤ 128 := by rw [hlX]; exact famK_len _ _
    have hwO := hw.own (by simp; omega)
    have ntw := hwO.nt
    have csw := hwO.cs
    try simp (disch := first | omega | (simp; done) | fail) [wrap64c, if_pos, if_neg, opAnd, opOr, opXor, opDiff, opShr, opBit, lA, gc0, gz0, c1, gc1, gz1, hf', hfr, lu1, nt1, c2, lu3, lx, e1, e2, e5, e9, e10, e44, e45, e46, lp, ntp, ntq, hlt, gc4, csp, ntP, gc8, e13, e14, e72, e73, gc, gb, hlj', gz', ntw, csw, putCells]
    have m10 := hA10.1.1
    refine done_ret (by simp [putCells, e2]; rfl) ⟨(by first | exact aK | exact kK), .agg #[.int .i64 (run.length : Int), w], p, by rw [hk]; rfl, h4.next, by omega, by simp; omega, ?_, ?_⟩
    · have y1 : rsN L A = (run.length : Int) := by rw [rsN, if_pos hk, ← hF]; show ((startN F A.length : Nat) : Int) = _; rw [r2]
      have y2 : rsX L A = toN l := by rw [rsX, if_pos hk, ← hF, hlX]
      rw [y1, y2]
      exact ⟨w, rfl, (hwO.same (Same.put (Same.refl _ _) (by unfold Btw; omega) _)).sub fun o ho => ⟨ho.1, by have := ho.2; simp; omega⟩⟩
    · have y3 : rsP L A = placesN F A.length := by rw [rsP, if_pos hk, ← hF]
      rw [y3]
      exact (hpk.same (Same.put (Same.refl _ _) (by unfold Btw; omega) _)).sub fun o ho => ⟨by have := ho.1; omega, by have := ho.2; omega⟩
  have hlj' : (j : Int) < (run.length : Int) := by omega
  obtain ⟨z11, h11, hc11, ha11, hg11⟩ := waStates_ok f ho.sh ho hR hlj h10 (.agg #[a, b]) z _ Bz (hv0.keep hA10.1) hz hI
  have n11 := ha11.1.1
  try simp (disch := first | omega | (simp; done) | fail) [wrap64c, if_pos, if_neg, opAnd, opOr, opXor, opDiff, opShr, opBit, lA, gc0, gz0, c1, gc1, gz1, hf', hfr, lu1, nt1, c2, lu3, lx, e1, e2, e5, e9, e10, e44, e45, e46, lp, ntp, ntq, hlt, gc4, csp, ntP, gc8, e13, e14, e72, e73, gc, gb, hlj']
  refine callG_c (by simp) (by simp) ?ha (hc11) ?_
  (case ha => simp (disch := first | omega | (simp; done) | fail) [wrap64c, if_pos, if_neg, opAnd, opOr, opXor, opDiff, opShr, opBit, lA, gc0, gz0, c1, gc1, gz1, hf', hfr, lu1, nt1, c2, lu3, lx, e1, e2, e5, e9, e10, e44, e45, e46, lp, ntp, ntq, hlt, gc4, csp, ntP, gc8, e13, e14, e72, e73, gc, gb, hlj'])
  have A11 := hA10.trans ha11
  have m11 := A11.1.1
  obtain ⟨hI2, _, hcm2⟩ := stateS_inv f ho.sh (j + 1) (by omega)
  have hTl := hI2.small ho.sh (by omega)
  have eT : stepS L (stateS L A j) = stateS L A (j + 1) := rfl
  rw [eT] at hg11
  obtain ⟨T, hT⟩ : ∃ T, T = stateS L A (j + 1) := ⟨_, rfl⟩
  rw [← hT] at hg11 hI2 hcm2 hTl
  have lT := hg11.lenD
  have gc11 : h11.get h.next = .cells [a, b] true true 1 := by rw [ha11.1.2 _ (by omega)]; exact gc
  have gz11 : h11.get (h.next + 1) = .cells [.int .i64 0, .slice none 0 0] true true 1 := by rw [ha11.1.2 _ (by omega)]; exact gz
  have gb11 : h11.get (h4.next + 1) = .cells [.int .i64 (run.length : Int), w] true true 1 := by rw [ha11.1.2 _ (by omega)]; exact gb
  try simp (disch := first | omega | (simp; done) | fail) [wrap64c, if_pos, if_neg, opAnd, opOr, opXor, opDiff, opShr, opBit, lA, gc0, gz0, c1, gc1, gz1, hf', hfr, lu1, nt1, c2, lu3, lx, e1, e2, e5, e9, e10, e44, e45, e46, lp, ntp, ntq, hlt, gc4, csp, ntP, gc8, e13, e14, e72, e73, gc, gb, hlj', lT]
  refine WD_loopC [1, 2, 9, 10, 13, 14, 72, 73, 78, 79] (fun m tm h' => ∃ e w2 l2, m = T.length - e ∧ tm 80 = .int .i64 (e : Int) ∧ (e ≤ T.length) ∧ (Adds h h') ∧ (h11.next ≤ h'.next) ∧ (Same (fun o => o ≠ h4.next + 1) h11 h') ∧ (h'.get (h4.next + 1) = .cells [.int .i64 (run.length : Int), w2] true true 1) ∧ (IntsA h4.next h' w2 (toN l2)) ∧ (l2.Pairwise (· < ·)) ∧ (∀ a ∈ l2, a < 128 ∧ ∃ x B, Rn L A x B ∧ setN F x A.length = a) ∧ (∀ a ∈ l, a ∈ l2) ∧ (∀ c (hc : c < T.length), c < e → setN F T[c].x A.length ∈ l2)) _ ⟨0, w, l, rfl, (by simp (disch := first | omega | (simp; done) | fail) [wrap64c, if_pos, if_neg, opAnd, opOr, opXor, opDiff, opShr, opBit, lA, gc0, gz0, c1, gc1, gz1, hf', hfr, lu1, nt1, c2, lu3, lx, e1, e2, e5, e9, e10, e44, e45, e46, lp, ntp, ntq, hlt, gc4, csp, ntP, gc8, e13, e14, e72, e73, gc, gb, hlj', lT]), (by first | omega | assumption | (simp (disch := first | omega | (simp; done) | fail) [wrap64c, if_pos, if_neg, opAnd, opOr, opXor, opDiff, opShr, opBit, lA, gc0, gz0, c1, gc1, gz1, hf', hfr, lu1, nt1, c2, lu3, lx, e1, e2, e5, e9, e10, e44, e45, e46, lp, ntp, ntq, hlt, gc4, csp, ntP, gc8, e13, e14, e72, e73, gc, gb, hlj', lT] <;> omega)), A11, (by first | omega | assumption | (simp (disch := first | omega | (simp; done) | fail) [wrap64c, if_pos, if_neg, opAnd, opOr, opXor, opDiff, opShr, opBit, lA, gc0, gz0, c1, gc1, gz1, hf', hfr, lu1, nt1, c2, lu3, lx, e1, e2, e5, e9, e10, e44, e45, e46, lp, ntp, ntq, hlt, gc4, csp, ntP, gc8, e13, e14, e72, e73, gc, gb, hlj', lT] <;> omega)), (Same.refl _ _), gb11, (ia_keep hw ha11.1), hls, hl1, (fun a h => h), (fun c _ h => by omega)⟩ ?_
  rintro m tm h' hFr ⟨e, w2, l2, rfl, e80, he, hA12, hn12, hS12, gb2, hw2, hls2, hl12, hl22, hl32⟩
  simp only [FrameL] at hFr
  obtain ⟨f1_3, f2_3, f9_3, f10_3, f13_3, f14_3, f72_3, f73_3, f78_3, f79_3, -⟩ := hFr
  try simp (disch := first | omega | (simp; done) | fail) [wrap64c, if_pos, if_neg, opAnd, opOr, opXor, opDiff, opShr, opBit, lA, gc0, gz0, c1, gc1, gz1, hf', hfr, lu1, nt1, c2, lu3, lx, e1, e2, e5, e9, e10, e44, e45, e46, lp, ntp, ntq, hlt, gc4, csp, ntP, gc8, e13, e14, e72, e73, gc, gb, hlj', lT] at f1_3 f2_3 f9_3 f10_3 f13_3 f14_3 f72_3 f73_3 f78_3 f79_3
  have e1 := f1_3
  have e2 := f2_3
  have e9 := f9_3
  have e10 := f10_3
  have e13 := f13_3
  have e14 := f14_3
  have e72 := f72_3
  have e73 := f73_3
  have e78 := f78_3
  have e79 := f79_3
  rename Hp => h12
  have n12 := hS12.1
  by_cases hle : e < T.length
  case neg =>
    have hee : e = T.length := by omega
    try simp (disch := first | omega | (simp; done) | fail) [wrap64c, if_pos, if_neg, opAnd, opOr, opXor, opDiff, opShr, opBit, lA, gc0, gz0, c1, gc1, gz1, hf', hfr, lu1, nt1, c2, lu3, lx, e1, e2, e5, e9, e10, e44, e45, e46, lp, ntp, ntq, hlt, gc4, csp, ntP, gc8, e13, e14, e72, e73, gc, gb, hlj', lT, e78, e79, e80, gb2, hle]
    refine loopK_next _ ?hm ?hf ⟨j + 1, w2, l2, z11, h10.next, rfl, (by simp (disch := first | omega | (simp; done) | fail) [wrap64c, if_pos, if_neg, opAnd, opOr, opXor, opDiff, opShr, opBit, lA, gc0, gz0, c1, gc1, gz1, hf', hfr, lu1, nt1, c2, lu3, lx, e1, e2, e5, e9, e10, e44, e45, e46, lp, ntp, ntq, hlt, gc4, csp, ntP, gc8, e13, e14, e72, e73, gc, gb, hlj', lT, e78, e79, e80, gb2, hle] <;> omega), (by simp (disch := first | omega | (simp; done) | fail) [wrap64c, if_pos, if_neg, opAnd, opOr, opXor, opDiff, opShr, opBit, lA, gc0, gz0, c1, gc1, gz1, hf', hfr, lu1, nt1, c2, lu3, lx, e1, e2, e5, e9, e10, e44, e45, e46, lp, ntp, ntq, hlt, gc4, csp, ntP, gc8, e13, e14, e72, e73, gc, gb, hlj', lT, e78, e79, e80, gb2, hle] <;> omega), (by first | omega | assumption | (simp (disch := first | omega | (simp; done) | fail) [wrap64c, if_pos, if_neg, opAnd, opOr, opXor, opDiff, opShr, opBit, lA, gc0, gz0, c1, gc1, gz1, hf', hfr, lu1, nt1, c2, lu3, lx, e1, e2, e5, e9, e10, e44, e45, e46, lp, ntp, ntq, hlt, gc4, csp, ntP, gc8, e13, e14, e72, e73, gc, gb, hlj', lT, e78, e79, e80, gb2, hle] <;> omega)), hA12, (by omega), (by rw [← hT]; exact hg11.same stR_steady ⟨hS12.1, fun o ho hl => hS12.2 o (by omega) hl⟩), (by rw [hS12.2 _ (by omega) (by omega)]; exact gc11), (by rw [hS12.2 _ (by omega) (by omega)]; exact gz11), (by first | omega | assumption | (simp (disch := first | omega | (simp; done) | fail) [wrap64c, if_pos, if_neg, opAnd, opOr, opXor, opDiff, opShr, opBit, lA, gc0, gz0, c1, gc1, gz1, hf', hfr, lu1, nt1, c2, lu3, lx, e1, e2, e5, e9, e10, e44, e45, e46, lp, ntp, ntq, hlt, gc4, csp, ntP, gc8, e13, e14, e72, e73, gc, gb, hlj', lT, e78, e79, e80, gb2, hle] <;> omega)), ((hpk.keep ha11.1).same ⟨hS12.1, fun o ho hl => hS12.2 o (by have := ho.2; omega) hl⟩), ((hqk.keep ha11.1).same ⟨hS12.1, fun o ho hl => hS12.2 o (by have := ho.2; omega) hl⟩), (by first | omega | assumption | (simp (disch := first | omega | (simp; done) | fail) [wrap64c, if_pos, if_neg, opAnd, opOr, opXor, opDiff, opShr, opBit, lA, gc0, gz0, c1, gc1, gz1, hf', hfr, lu1, nt1, c2, lu3, lx, e1, e2, e5, e9, e10, e44, e45, e46, lp, ntp, ntq, hlt, gc4, csp, ntP, gc8, e13, e14, e72, e73, gc, gb, hlj', lT, e78, e79, e80, gb2, hle] <;> omega)), (by first | omega | assumption | (simp (disch := first | omega | (simp; done) | fail) [wrap64c, if_pos, if_neg, opAnd, opOr, opXor, opDiff, opShr, opBit, lA, gc0, gz0, c1, gc1, gz1, hf', hfr, lu1, nt1, c2, lu3, lx, e1, e2, e5, e9, e10, e44, e45, e46, lp, ntp, ntq, hlt, gc4, csp, ntP, gc8, e13, e14, e72, e73, gc, gb, hlj', lT, e78, e79, e80, gb2, hle] <;> omega)), (by first | omega | assumption | (simp (disch := first | omega | (simp; done) | fail) [wrap64c, if_pos, if_neg, opAnd, opOr, opXor, opDiff, opShr, opBit, lA, gc0, gz0, c1, gc1, gz1, hf', hfr, lu1, nt1, c2, lu3, lx, e1, e2, e5, e9, e10, e44, e45, e46, lp, ntp, ntq, hlt, gc4, csp, ntP, gc8, e13, e14, e72, e73, gc, gb, hlj', lT, e78, e79, e80, gb2, hle] <;> omega)), ?c_hl2⟩
    (case hm => first | omega | (simp; omega))
    (case hf => simp [FrameL, lA, gc0, gz0, c1, gc1, gz1, hf', hfr, lu1, nt1, c2, lu3, lx, e1, e2, e5, e9, e10, e44, e45, e46, lp, ntp, ntq, hlt, gc4, csp, ntP, gc8, e13, e14, e72, e73, gc, gb, hlj', lT, e78, e79, e80, gb2, hle, f1_2, f2_2, f9_2, f10_2, f13_2, f72_2])
    case c_hl2 =>
      exact (fun x B hr hx => by
        by_cases hxj : x.sum ≤ (j : Int)
        · exact hl22 _ (hl2 x B hr hxj)
        · obtain ⟨s, hs, e2⟩ := List.mem_map.1 (hcm2 x B hr (by omega))
          obtain ⟨c, hc, rfl⟩ := List.getElem_of_mem hs
          rw [← e2]
          exact hl32 c hc (by omega))
  obtain ⟨os, cs, exs, y, z', y1, y2, y3, y4, y5, ⟨y6, y7, y8⟩, y9, y10⟩ := stG_at hg11 hle
  have y3q : h12.get os = .cells cs true exs 3 := by rw [hS12.2 _ (by omega) y2.2]; exact y3
  have y1' := y1
  have hj3 : e * 3 + 3 ≤ T.length * 3 := by omega
  have nty := y9.ints.nt
  have csy := y9.ints.cs
  have ntz := y10.ints.nt
  have csz := y10.ints.cs
  have hy12 := y9.same ⟨hS12.1, fun o ho hl => hS12.2 o (by omega) hl⟩
  obtain ⟨hrn, hsx⟩ := hI2.rn _ (List.getElem_mem hle)
  have hlen := hrn.len
  have hxb := hrn.small (by omega)
  have lY := hy12.lenD
  obtain ⟨x, hx⟩ : ∃ x, x = T[e].x := ⟨_, rfl⟩
  rw [← hx] at hrn hsx hlen hxb hy12 lY
  have hxl : x.length = A.length := hlen.2
  have hxF := r6 _ _ hrn
  have hstn : ∀ k, k ≤ A.length → startN F k ≤ 7 := fun k hk => by rcases r5 k with h | h <;> omega
  have hsv : ∀ k, k ≤ A.length → setN F x k < 128 := fun k hk => Nat.lt_of_lt_of_le (setN_lt hxF k) (bit7 (hstn k hk)).2
  try simp (disch := first | omega | (simp; done) | fail) [wrap64c, if_pos, if_neg, opAnd, opOr, opXor, opDiff, opShr, opBit, lA, gc0, gz0, c1, gc1, gz1, hf', hfr, lu1, nt1, c2, lu3, lx, e1, e2, e5, e9, e10, e44, e45, e46, lp, ntp, ntq, hlt, gc4, csp, ntP, gc8, e13, e14, e72, e73, gc, gb, hlj', lT, e78, e79, e80, gb2, hle, y3q, y1', y4, y5, y6, y7, y8, hj3, nty, csy, ntz, csz, lY, hxl, putCells]
  first | refine WY_heap fun h13 q_h13 => ?_ | refine callG_heap fun h13 q_h13 => ?_ | refine callP_heap fun h13 q_h13 => ?_ | refine callS_heap fun h13 q_h13 => ?_ | refine RY_heap fun h13 q_h13 => ?_ | refine PY_heap fun h13 q_h13 => ?_ | refine SY_heap fun h13 q_h13 => ?_ | refine doneY_heap fun h13 q_h13 => ?_ | refine loopK_heap fun h13 q_h13 => ?_ | refine thenY_heap fun h13 q_h13 => ?_ | refine thenM_heap fun h13 q_h13 => ?_
  have k13 : Adds h12 h13 := by rw [q_h13]; exact (by first | exact aK | exact kK)
  have n13 : h13.next = h12.next + 1 := by simp [q_h13]
  have A13 := hA12.trans k13
  have gb13 : h13.get (h4.next + 1) = .cells [.int .i64 (run.length : Int), w2] true true 1 := by rw [k13.1.2 _ (by omega)]; exact gb2
  have hy13 := hy12.keep k13.1
  have hq13 : IntsO (Btw h3.next h4.next) h13 q (startsL F A.length) := ((hqk.keep ha11.1).same ⟨hS12.1, fun o ho hl => hS12.2 o (by have := ho.2; omega) hl⟩).keep k13.1
  have lq13 := hq13.lenD
  have hsl13 := startsL_len F A.length
  refine WD_loopC [1, 2, 9, 10, 13, 14, 72, 73, 78, 79, 80, 85, 86] (fun m tm h' => ∃ k, m = A.length - k ∧ h13 = h' ∧ tm 17 = .int .i64 ((setN F x k : Nat) : Int) ∧ tm 87 = .int .i64 (k : Int) ∧ (k ≤ A.length)) _ ⟨0, rfl, rfl, (by simp [setN]), (by simp (disch := first | omega | (simp; done) | fail) [wrap64c, if_pos, if_neg, opAnd, opOr, opXor, opDiff, opShr, opBit, lA, gc0, gz0, c1, gc1, gz1, hf', hfr, lu1, nt1, c2, lu3, lx, e1, e2, e5, e9, e10, e44, e45, e46, lp, ntp, ntq, hlt, gc4, csp, ntP, gc8, e13, e14, e72, e73, gc, gb, hlj', lT, e78, e79, e80, gb2, hle, y3q, y1', y4, y5, y6, y7, y8, hj3, nty, csy, ntz, csz, lY, hxl, gb13, lq13, hsl13]), (by first | omega | assumption | (simp (disch := first | omega | (simp; done) | fail) [wrap64c, if_pos, if_neg, opAnd, opOr, opXor, opDiff, opShr, opBit, lA, gc0, gz0, c1, gc1, gz1, hf', hfr, lu1, nt1, c2, lu3, lx, e1, e2, e5, e9, e10, e44, e45, e46, lp, ntp, ntq, hlt, gc4, csp, ntP, gc8, e13, e14, e72, e73, gc, gb, hlj', lT, e78, e79, e80, gb2, hle, y3q, y1', y4, y5, y6, y7, y8, hj3, nty, csy, ntz, csz, lY, hxl, gb13, lq13, hsl13] <;> omega))⟩ ?_
  rintro m tm h' hFr ⟨k, rfl, rfl, e17, e87, hkA⟩
  simp only [FrameL] at hFr
  obtain ⟨f1_4, f2_4, f9_4, f10_4, f13_4, f14_4, f72_4, f73_4, f78_4, f79_4, f80_4, f85_4, f86_4, -⟩ := hFr
  try simp (disch := first | omega | (simp; done) | fail) [wrap64c, if_pos, if_neg, opAnd, opOr, opXor, opDiff, opShr, opBit, lA, gc0, gz0, c1, gc1, gz1, hf', hfr, lu1, nt1, c2, lu3, lx, e1, e2, e5, e9, e10, e44, e45, e46, lp, ntp, ntq, hlt, gc4, csp, ntP, gc8, e13, e14, e72, e73, gc, gb, hlj', lT, e78, e79, e80, gb2, hle, y3q, y1', y4, y5, y6, y7, y8, hj3, nty, csy, ntz, csz, lY, hxl, gb13, lq13, hsl13] at f1_4 f2_4 f9_4 f10_4 f13_4 f14_4 f72_4 f73_4 f78_4 f79_4 f80_4 f85_4 f86_4
  have e1 := f1_4
  have e2 := f2_4
  have e9 := f9_4
  have e10 := f10_4
  have e13 := f13_4
  have e14 := f14_4
  have e72 := f72_4
  have e73 := f73_4
  have e78 := f78_4
  have e79 := f79_4
  have e80 := f80_4
  have e85 := f85_4
  have e86 := f86_4
  by_cases hkl : k < A.length
  · have hkx : k < x.length := by omega
    obtain ⟨o_u, i_u, c_u, cs_u, own_u, ex_u, es_u, q_u, b_u, g_u, l_u, r_u⟩ := (hy13.ints).open ((by omega))
    have z_u : ∀ h2 : i_u < cs_u.length, cs_u[i_u] = _ := fun h2 => r_u 0 ((by omega)) h2
    obtain ⟨o_s, i_s, c_s, cs_s, own_s, ex_s, es_s, q_s, b_s, g_s, l_s, r_s⟩ := (hq13.ints).open ((by simp; omega))
    have z_s : ∀ h2 : i_s < cs_s.length, cs_s[i_s] = _ := fun h2 => r_s 0 ((by simp; omega)) h2
    have hxk := hxb _ (List.getElem_mem hkx)
    have hxk7 := le_sum (fun y hy => (hxb y hy).1) (List.getElem_mem hkx)
    obtain ⟨c, hc⟩ : ∃ c : Nat, x[k] = (c : Int) := ⟨x[k].toNat, by omega⟩
    have hcc := hc
    have hc7 : c ≤ 7 := by omega
    have hs7 := hstn k (by omega)
    have hbb := bit7 hc7
    have hsh := shl_op c (startN F k) hc7 hs7
    have hsg := startsL_get F A.length k (by simp; omega)
    have hsk := hsv k (by omega)
    have hsl2 : shN c (startN F k) < 2 ^ 20 := Nat.lt_of_lt_of_le (shl_lt c (startN F k)) (bit_mono (by omega))
    try simp (disch := first | omega | (simp; done) | fail) [wrap64c, if_pos, if_neg, opAnd, opOr, opXor, opDiff, opShr, opBit, lA, gc0, gz0, c1, gc1, gz1, hf', hfr, lu1, nt1, c2, lu3, lx, e1, e2, e5, e9, e10, e44, e45, e46, lp, ntp, ntq, hlt, gc4, csp, ntP, gc8, e13, e14, e72, e73, gc, gb, hlj', lT, e78, e79, e80, gb2, hle, y3q, y1', y4, y5, y6, y7, y8, hj3, nty, csy, ntz, csz, lY, hxl, gb13, lq13, hsl13, e17, e85, e86, e87, hkl, hkx, q_u, g_u, l_u, r_u, z_u, q_s, g_s, l_s, r_s, z_s, hcc, hsh, hsg]
    refine WD_drawC 9 rfl (by kernel_rfl) ?_
    try simp (disch := first | omega | (simp; done) | fail) [wrap64c, if_pos, if_neg, opAnd, opOr, opXor, opDiff, opShr, opBit, lA, gc0, gz0, c1, gc1, gz1, hf', hfr, lu1, nt1, c2, lu3, lx, e1, e2, e5, e9, e10, e44, e45, e46, lp, ntp, ntq, hlt, gc4, csp, ntP, gc8, e13, e14, e72, e73, gc, gb, hlj', lT, e78, e79, e80, gb2, hle, y3q, y1', y4, y5, y6, y7, y8, hj3, nty, csy, ntz, csz, lY, hxl, gb13, lq13, hsl13, e17, e85, e86, e87, hkl, hkx, q_u, g_u, l_u, r_u, z_u, q_s, g_s, l_s, r_s, z_s, hcc, hsh, hsg]
    refine loopK_next _ ?hm ?hf ⟨k + 1, rfl, rfl, (by rw [setN, getD_at hkx, hc, Int.toNat_natCast]; simp), (by simp (disch := first | omega | (simp; done) | fail) [wrap64c, if_pos, if_neg, opAnd, opOr, opXor, opDiff, opShr, opBit, lA, gc0, gz0, c1, gc1, gz1, hf', hfr, lu1, nt1, c2, lu3, lx, e1, e2, e5, e9, e10, e44, e45, e46, lp, ntp, ntq, hlt, gc4, csp, ntP, gc8, e13, e14, e72, e73, gc, gb, hlj', lT, e78, e79, e80, gb2, hle, y3q, y1', y4, y5, y6, y7, y8, hj3, nty, csy, ntz, csz, lY, hxl, gb13, lq13, hsl13, e17, e85, e86, e87, hkl, hkx, q_u, g_u, l_u, r_u, z_u, q_s, g_s, l_s, r_s, z_s, hcc, hsh, hsg] <;> omega), (by first | omega | assumption | (simp (disch := first | omega | (simp; done) | fail) [wrap64c, if_pos, if_neg, opAnd, opOr, opXor, opDiff, opShr, opBit, lA, gc0, gz0, c1, gc1, gz1, hf', hfr, lu1, nt1, c2, lu3, lx, e1, e2, e5, e9, e10, e44, e45, e46, lp, ntp, ntq, hlt, gc4, csp, ntP, gc8, e13, e14, e72, e73, gc, gb, hlj', lT, e78, e79, e80, gb2, hle, y3q, y1', y4, y5, y6, y7, y8, hj3, nty, csy, ntz, csz, lY, hxl, gb13, lq13, hsl13, e17, e85, e86, e87, hkl, hkx, q_u, g_u, l_u, r_u, z_u, q_s, g_s, l_s, r_s, z_s, hcc, hsh, hsg] <;> omega))⟩
    (case hm => first | omega | (simp; omega))
    (case hf => simp [FrameL, lA, gc0, gz0, c1, gc1, gz1, hf', hfr, lu1, nt1, c2, lu3, lx, e1, e2, e5, e9, e10, e44, e45, e46, lp, ntp, ntq, hlt, gc4, csp, ntP, gc8, e13, e14, e72, e73, gc, gb, hlj', lT, e78, e79, e80, gb2, hle, y3q, y1', y4, y5, y6, y7, y8, hj3, nty, csy, ntz, csz, lY, hxl, gb13, lq13, hsl13, e17, e85, e86, e87, hkl, hkx, q_u, g_u, l_u, r_u, z_u, q_s, g_s, l_s, r_s, z_s, hcc, hsh, hsg, f1_4, f2_4, f9_4, f10_4, f13_4, f14_4, f72_4, f73_4, f78_4, f79_4, f80_4, f85_4, f86_4])
  · have hke : k = A.length := by omega
    obtain ⟨a0, ha0⟩ : ∃ a, a = setN F x A.length := ⟨_, rfl⟩
    have ha0l : a0 < 128 := by rw [ha0]; exact hsv _ (Nat.le_refl _)
    rw [hke, ← ha0] at e17
    have hl2l : l2.length ≤ 128 := by
      have := srt_len (lo := 0) (m := 128) hls2 fun a ha => ⟨Nat.zero_le _, (hl12 a ha).1⟩
      omega
    obtain ⟨w14, h14, hc14, ha14, hw14⟩ := l1Put_ok h13 h4.next w2 l2 a0 (ia_keep hw2 k13.1) hls2 (by omega) (by omega)
    have hput := spPut_of h13 w2 w14 _ h14 hc14
    have n14 := ha14.1.1
    have gb14 : h14.get (h4.next + 1) = .cells [.int .i64 (run.length : Int), w2] true true 1 := by rw [ha14.1.2 _ (by omega)]; exact gb13
    have A14 := A13.trans ha14
    obtain ⟨wp2, wi2, wc2, hwf2⟩ := ia_form hw2
    have hno := ia_box hw14 gb14 hwf2
    have ntw2 : notTup w2 = true := by rw [hwf2]; rfl
    have csw2 : w2.cells = #[w2] := by rw [hwf2]; rfl
    obtain ⟨wp4, wi4, wc4, hwf4⟩ := ia_form hw14
    have ntw4 : notTup w14 = true := by rw [hwf4]; rfl
    have csw4 : w14.cells = #[w14] := by rw [hwf4]; rfl
    try simp (disch := first | omega | (simp; done) | fail) [wrap64c, if_pos, if_neg, opAnd, opOr, opXor, opDiff, opShr, opBit, lA, gc0, gz0, c1, gc1, gz1, hf', hfr, lu1, nt1, c2, lu3, lx, e1, e2, e5, e9, e10, e44, e45, e46, lp, ntp, ntq, hlt, gc4, csp, ntP, gc8, e13, e14, e72, e73, gc, gb, hlj', lT, e78, e79, e80, gb2, hle, y3q, y1', y4, y5, y6, y7, y8, hj3, nty, csy, ntz, csz, lY, hxl, gb13, lq13, hsl13, e17, e85, e86, e87, hkl, gb14, ntw2, csw2, ntw4, csw4]
    refine callG_c (by simp) (by simp) ?ha (hput) ?_
    (case ha => simp (disch := first | omega | (simp; done) | fail) [wrap64c, if_pos, if_neg, opAnd, opOr, opXor, opDiff, opShr, opBit, lA, gc0, gz0, c1, gc1, gz1, hf', hfr, lu1, nt1, c2, lu3, lx, e1, e2, e5, e9, e10, e44, e45, e46, lp, ntp, ntq, hlt, gc4, csp, ntP, gc8, e13, e14, e72, e73, gc, gb, hlj', lT, e78, e79, e80, gb2, hle, y3q, y1', y4, y5, y6, y7, y8, hj3, nty, csy, ntz, csz, lY, hxl, gb13, lq13, hsl13, e17, e85, e86, e87, hkl, gb14, ntw2, csw2, ntw4, csw4])
    try simp (disch := first | omega | (simp; done) | fail) [wrap64c, if_pos, if_neg, opAnd, opOr, opXor, opDiff, opShr, opBit, lA, gc0, gz0, c1, gc1, gz1, hf', hfr, lu1, nt1, c2, lu3, lx, e1, e2, e5, e9, e10, e44, e45, e46, lp, ntp, ntq, hlt, gc4, csp, ntP, gc8, e13, e14, e72, e73, gc, gb, hlj', lT, e78, e79, e80, gb2, hle, y3q, y1', y4, y5, y6, y7, y8, hj3, nty, csy, ntz, csz, lY, hxl, gb13, lq13, hsl13, e17, e85, e86, e87, hkl, gb14, ntw2, csw2, ntw4, csw4, putCells]
    refine loopK_next _ ?hm ?hf ⟨e + 1, w14, putL l2 a0, rfl, (by simp (disch := first | omega | (simp; done) | fail) [wrap64c, if_pos, if_neg, opAnd, opOr, opXor, opDiff, opShr, opBit, lA, gc0, gz0, c1, gc1, gz1, hf', hfr, lu1, nt1, c2, lu3, lx, e1, e2, e5, e9, e10, e44, e45, e46, lp, ntp, ntq, hlt, gc4, csp, ntP, gc8, e13, e14, e72, e73, gc, gb, hlj', lT, e78, e79, e80, gb2, hle, y3q, y1', y4, y5, y6, y7, y8, hj3, nty, csy, ntz, csz, lY, hxl, gb13, lq13, hsl13, e17, e85, e86, e87, hkl, gb14, ntw2, csw2, ntw4, csw4] <;> omega), (by first | omega | assumption | (simp (disch := first | omega | (simp; done) | fail) [wrap64c, if_pos, if_neg, opAnd, opOr, opXor, opDiff, opShr, opBit, lA, gc0, gz0, c1, gc1, gz1, hf', hfr, lu1, nt1, c2, lu3, lx, e1, e2, e5, e9, e10, e44, e45, e46, lp, ntp, ntq, hlt, gc4, csp, ntP, gc8, e13, e14, e72, e73, gc, gb, hlj', lT, e78, e79, e80, gb2, hle, y3q, y1', y4, y5, y6, y7, y8, hj3, nty, csy, ntz, csz, lY, hxl, gb13, lq13, hsl13, e17, e85, e86, e87, hkl, gb14, ntw2, csw2, ntw4, csw4] <;> omega)), (by have := hA10.1.1; exact (by first | exact aK | exact kK)), (by simp; omega), ((hS12.trans (.of_keeps (k13.trans ha14).1)).put (fun q => q rfl) _), (by first | omega | assumption | (simp (disch := first | omega | (simp; done) | fail) [wrap64c, if_pos, if_neg, opAnd, opOr, opXor, opDiff, opShr, opBit, lA, gc0, gz0, c1, gc1, gz1, hf', hfr, lu1, nt1, c2, lu3, lx, e1, e2, e5, e9, e10, e44, e45, e46, lp, ntp, ntq, hlt, gc4, csp, ntP, gc8, e13, e14, e72, e73, gc, gb, hlj', lT, e78, e79, e80, gb2, hle, y3q, y1', y4, y5, y6, y7, y8, hj3, nty, csy, ntz, csz, lY, hxl, gb13, lq13, hsl13, e17, e85, e86, e87, hkl, gb14, ntw2, csw2, ntw4, csw4] <;> omega)), (ia_same hw14 ((Same.refl _ _).put hno _)), (putL_srt hls2 _), ?c_hl12, (fun a ha => (putL_mem _ _ _).2 (.inr (hl22 a ha))), ?c_hl32⟩
    (case hm => first | omega | (simp; omega))
    (case hf => simp [FrameL, lA, gc0, gz0, c1, gc1, gz1, hf', hfr, lu1, nt1, c2, lu3, lx, e1, e2, e5, e9, e10, e44, e45, e46, lp, ntp, ntq, hlt, gc4, csp, ntP, gc8, e13, e14, e72, e73, gc, gb, hlj', lT, e78, e79, e80, gb2, hle, y3q, y1', y4, y5, y6, y7, y8, hj3, nty, csy, ntz, csz, lY, hxl, gb13, lq13, hsl13, e17, e85, e86, e87, hkl, gb14, ntw2, csw2, ntw4, csw4, f1_3, f2_3, f9_3, f10_3, f13_3, f14_3, f72_3, f73_3, f78_3, f79_3])
    case c_hl12 =>
      exact (fun a ha => by
        rcases (putL_mem _ _ _).1 ha with rfl | ha
        · exact ⟨ha0l, x, _, hrn, ha0.symm⟩
        · exact hl12 a ha)
    case c_hl32 =>
      exact (fun c hc hce => (putL_mem _ _ _).2 (by
        by_cases ec : c = e
        · subst ec; left; rw [ha0, hx]
        · exact .inr (hl32 c hc (by omega))))
end Go.Proofs.Ytnnjehonbolliaa
