/- CountRuns, by the program. -/
import Derived.Test.YtnjabaeajjhliaaT41
namespace Go.Proofs.Ytnjabaeajjhliaa
set_option linter.unusedSimpArgs false
set_option linter.unusedVariables false
set_option maxHeartbeats 4000000
open Go Go.Eng
attribute [local irreducible] WD RunD PreD Runs CallOK

theorem reached_ok {L : List (List Int)} {A X E : List Int} {R : Nat} (f : FinR L A X E R) (hs : Shape L A.length) (ho : Ok L A) (hR60 : R ≤ 60) {P : List (List Int) → Hp → Prop} {base : Nat} {S : Nat → Prop} {fid : Nat} {dc : Array Value} (D : DoerC L A P base S fid dc) (h : Hp) (a b : Value) (hP : P [] h) (hb : base ≤ h.next)
    (hL : IRowsF (fun o => o < base ∧ ¬ S o) h a L) (hB : IntsF (fun o => o < base ∧ ¬ S o) h b A) :
    ∃ u h', CallOK Try.prog 107 #[.agg #[a, b], .func (.func fid) #[] dc] h u h' ∧ ∃ s', u = .int .i64 ((capN (wN L R A) : Nat) : Int) ∧ Wr S h h' ∧ P s' h' ∧ (∀ x B, Rn L A x B → x ∈ s') ∧ ∀ y ∈ s', ∃ C, Rn L A y C := by
  have h5 := hs.le
  have nta := hL.sl.nt
  have csa := hL.sl.cs
  have ntb := hB.ints.nt
  have csb := hB.ints.cs
  have hfn := D.fn
  have hpd : pad (List.replicate A.length 0) = [0, 0, 0, 0, 0] := by
    unfold pad
    rw [List.length_replicate, List.replicate_append_replicate, show A.length + (5 - A.length) = 5 by omega]; rfl
  have hkey := keyC_five hpd
  refine callY_L (args := [.agg #[a, b], .func (.func fid) #[] dc]) 13 _ [.tmp 4] Try.func107 rfl rfl rfl ?_
  try simp (disch := first | omega | (simp; done) | fail) [wrap64c, if_pos, if_neg, nta, csa, ntb, csb, hfn, putCells]
  first | refine WY_heap fun h1 q_h1 => ?_ | refine callG_heap fun h1 q_h1 => ?_ | refine callP_heap fun h1 q_h1 => ?_ | refine RY_heap fun h1 q_h1 => ?_ | refine PY_heap fun h1 q_h1 => ?_ | refine doneY_heap fun h1 q_h1 => ?_ | refine loopK_heap fun h1 q_h1 => ?_ | refine thenY_heap fun h1 q_h1 => ?_ | refine thenM_heap fun h1 q_h1 => ?_
  have k1 : Adds h h1 := by rw [q_h1]; exact (by first | exact aK | exact kK)
  have n1 : h1.next = h.next + 5 := by simp [q_h1]
  have hst : ReSt base (h.next + 1) (h.next + 2) (h.next + 1 + 2) (h.next + 2 + 2) fid dc [] h1 := ⟨by omega, by simp [q_h1], by simp [q_h1], by simp [q_h1], by simp [q_h1]⟩
  have hP1 := D.stab [] h h1 hP hb k1.1.1 fun o ho => k1.1.2 o (by omega)
  obtain ⟨_, h2, hc2, E2, s2, rfl, W2, hT2, hP2, hM2, hC2, _, has2, ks2, _, re2⟩ := from_ok f hs ho hR60 D (h.next + 1) (h.next + 2) (h.next + 1 + 2) (h.next + 2 + 2) a R h1 (List.replicate A.length 0) A b [] [] hst hP1 .zero (by simp) (hL.keep k1.1) ((hB.keep k1.1).sub fun o ho => .inl ho) (fun e he => by cases he) (fun x B i _ ⟨e, he, _⟩ => by cases he) (fun y _ ⟨e, he, _⟩ => by cases he)
  rw [hkey] at hc2
  refine callG_f (fst := #[]) (cap := #[.pointer (some ⟨h.next + 1 + 2, 0, none⟩), .pointer (some ⟨h.next + 1, 0, none⟩), .pointer (some ⟨h.next + 2 + 2, 0, none⟩)]) (by simp) (by simp) ?hf ?hk ?ha (hc2) ?_
  (case hf => simp (disch := first | omega | (simp; done) | fail) [wrap64c, if_pos, if_neg, nta, csa, ntb, csb, hfn]; try rfl)
  (case hk => simp (disch := first | omega | (simp; done) | fail) [wrap64c, if_pos, if_neg, nta, csa, ntb, csb, hfn])
  (case ha => simp (disch := first | omega | (simp; done) | fail) [wrap64c, if_pos, if_neg, nta, csa, ntb, csb, hfn])
  try simp (disch := first | omega | (simp; done) | fail) [wrap64c, if_pos, if_neg, nta, csa, ntb, csb, hfn]
  refine done_ret rfl ⟨s2, rfl, wr_trans3 (.of_adds k1) W2 (fun o hl e => ?_), hP2, fun x B hr => ks2 x hr.len.2 (hC2.all has2 hr), fun y hy => ?_⟩
  · rcases e with e | e
    · exact e
    · omega
  · rcases re2 y hy with h1 | h1
    · cases h1
    · exact h1

theorem runsNone_ok (h : Hp) (x : List Int) (h5 : x.length ≤ 5) : ∃ u h', CallOK Try.prog 108 #[keyC x] h u h' ∧ Adds h h' := by
  obtain ⟨a1, a2, a3, a4, a5, hpd⟩ := pad_five h5
  rw [keyC_five hpd]
  refine callY_L (args := [.agg #[.int .i64 a1, .int .i64 a2, .int .i64 a3, .int .i64 a4, .int .i64 a5]]) 2 _ [] Try.func108 rfl rfl rfl ?_
  try simp (disch := first | omega | (simp; done) | fail) [wrap64c, if_pos, if_neg]
  exact done_end rfl (by first | exact aK | exact kK)
theorem implRuns_ok (h : Hp) (v : Value) (L : List (List Int)) (A : List Int) (hv : Chips h v L A) :
    CallOK Try.prog 57 #[v] h (.tuple #[.int .i64 (runsN L A), .bool (runsB L A)]) h := by
  refine callY_P 21 _ [.tmp 2, .tmp 3] Try.func57 rfl rfl rfl (by first | rfl | simp) ?_
  have hv0 := hv
  obtain ⟨a, b, rfl, hL, hA⟩ := hv
  refine WD_first ?_
  try simp (disch := first | omega | (simp; done) | fail) [wrap64c, if_pos, if_neg]
  refine stopK_heap fun h0 q_h0 => ?_
  refine stopK_go ?_
  have g_h0 : h0.get h.next = .cells [a, b] true true 1 := by simp [q_h0]
  have k_h0 : Adds h h0 := by rw [q_h0]; exact (by first | exact aK | exact kK)
  have n_h0 : h.next < h0.next := by simp [q_h0]; try omega
  try simp (disch := first | omega | (simp; done) | fail) [wrap64c, if_pos, if_neg, g_h0]
  obtain ⟨v1, h1, hc1, ha1, u1, u2, rfl, hu1, hu2⟩ := imFull_ok h0 _ (.slice none 0 0) L A [] (hv0.keep k_h0.1) (Ints.nil _) (by simp)
  have hu2' := hu2
  obtain ⟨p, q, S1, S2, rfl, hp, hq, _, _, _⟩ := hu2'
  have ntp := hp.nt
  have csp := hp.cs
  have ntq := hq.nt
  have csq := hq.cs
  refine callG_c (by simp) (by simp) ?ha (hc1) ?_
  (case ha => simp (disch := first | omega | (simp; done) | fail) [wrap64c, if_pos, if_neg, g_h0, ntp, csp, ntq, csq])
  have n1 := ha1.1.1
  have K1 := k_h0.trans ha1
  have g1 : h1.get h.next = .cells [a, b] true true 1 := by rw [ha1.1.2 _ n_h0]; exact g_h0
  cases hf : fullR L A [] with
  | none =>
    have hf' := hf
    have hk : runsB L A = false := by simp [runsB, hf]
    try simp (disch := first | omega | (simp; done) | fail) [wrap64c, if_pos, if_neg, g_h0, ntp, csp, ntq, csq, g1, hf', putCells]
    refine done_ret rfl ⟨by simp [runsN, hk], ?_⟩
    have := K1.1; exact (by first | exact aK | exact kK)
  | some r =>
    obtain ⟨run, E⟩ := r
    have hf' := hf
    have f := fullR_fin (by simp) hf
    have hR : run.length ≤ 60 := (fullR_len (by simp) hf).1
    have c1 : goodB L A = true := by
      cases hg : goodB L A with
      | true => rfl
      | false => simp [fullR, hg] at hf
    have ho := (good_of c1).ok
    have h5 := ho.sh.le
    try simp (disch := first | omega | (simp; done) | fail) [wrap64c, if_pos, if_neg, g_h0, ntp, csp, ntq, csq, g1, hf', putCells]
    first | refine WY_heap fun h2 q_h2 => ?_ | refine callG_heap fun h2 q_h2 => ?_ | refine callP_heap fun h2 q_h2 => ?_ | refine RY_heap fun h2 q_h2 => ?_ | refine PY_heap fun h2 q_h2 => ?_ | refine doneY_heap fun h2 q_h2 => ?_ | refine loopK_heap fun h2 q_h2 => ?_ | refine thenY_heap fun h2 q_h2 => ?_ | refine thenM_heap fun h2 q_h2 => ?_
    have k2 : Adds h1 h2 := by rw [q_h2]; exact (by first | exact aK | exact kK)
    have K2 := K1.trans k2
    have D : DoerC L A (fun _ _ => True) h.next (fun _ => False) 108 #[] := {
      stab := fun _ _ _ _ _ _ _ => trivial
      run := fun s h3 x B _ _ hr => by
        obtain ⟨u, h4, hc, ha⟩ := runsNone_ok h3 x (by have := hr.len.2; omega)
        exact ⟨u, h4, by simpa using hc, .of_adds ha, trivial⟩
      low := fun _ e => e.elim
      fn := by simp }
    obtain ⟨_, h3, hc3, s3, rfl, W3, _, _, _⟩ := reached_ok f ho.sh ho hR D h2 a b trivial K2.1.1 ((hL.old.keep K2.1).sub fun o ho => ⟨ho, id⟩) ((hA.old.keep K2.1).sub fun o ho => ⟨ho, id⟩)
    obtain ⟨W, hW⟩ : ∃ W, W = wN L run.length A := ⟨_, rfl⟩
    rw [← hW] at hc3
    have K3 : Keeps h h3 := W3.upd.keeps K2.1 fun o e => e.elim
    refine callG_c (by simp) (by simp) ?ha (hc3) ?_
    (case ha => simp (disch := first | omega | (simp; done) | fail) [wrap64c, if_pos, if_neg, g_h0, ntp, csp, ntq, csq, g1, hf'])
    by_cases hc : W ≤ 1000000000
    · have hk : runsB L A = true := by simp [runsB, hf, fst?, ← hW, hc]
      have hcw : capN W = W := by unfold capN; omega
      have hgt : ¬ (1000000000 : Int) < (W : Int) := by omega
      try simp (disch := first | omega | (simp; done) | fail) [wrap64c, if_pos, if_neg, g_h0, ntp, csp, ntq, csq, g1, hf', hcw, hgt]
      exact done_ret rfl (by simp [runsN, hk, hf, fst?, ← hW, K3])
    · have hk : runsB L A = false := by simp [runsB, hf, fst?, ← hW, hc]
      have hcw : capN W = 1000000001 := by unfold capN; omega
      try simp (disch := first | omega | (simp; done) | fail) [wrap64c, if_pos, if_neg, g_h0, ntp, csp, ntq, csq, g1, hf', hcw]
      exact done_ret rfl (by simp [runsN, hk, K3])
end Go.Proofs.Ytnjabaeajjhliaa
