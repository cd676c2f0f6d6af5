/- How many full runs there are, by the program. -/
import Derived.Test.YtnjabaeajjhliaaT40
import Derived.Test.YtnjabaeajjhliaaT39
namespace Go.Proofs.Ytnjabaeajjhliaa
set_option linter.unusedSimpArgs false
set_option linter.unusedVariables false
set_option maxHeartbeats 4000000
open Go Go.Eng
attribute [local irreducible] WD RunD PreD Runs CallOK

theorem wr_trans3 {S T : Nat → Prop} {a b c : Hp} (k : Wr S a b) (l : Wr T b c) (hst : ∀ o, o < a.next → T o → S o) : Wr S a c where
  upd := ⟨Nat.le_trans k.upd.1 l.upd.1, fun o ho hs => (l.upd.2 o (Nat.lt_of_lt_of_le ho k.upd.1) (fun ht => hs (hst o ho ht))).trans (k.upd.2 o ho hs)⟩
  own o ho hs hl := by
    by_cases ht : T o
    · rcases l.own o (Nat.lt_of_lt_of_le ho k.upd.1) ht hl with h1 | h1
      · exact .inl h1
      · rw [h1] at hl ⊢
        exact k.own o ho hs hl
    · have h1 := l.upd.2 o (Nat.lt_of_lt_of_le ho k.upd.1) ht
      rw [h1] at hl ⊢
      exact k.own o ho hs hl
  new o h1 h2 hl := by
    by_cases hb : o < b.next
    · by_cases ht : T o
      · rcases l.own o hb ht hl with h3 | h3
        · exact h3
        · rw [h3] at hl ⊢
          exact k.new o h1 hb hl
      · have h3 := l.upd.2 o hb ht
        rw [h3] at hl ⊢
        exact k.new o h1 hb hl
    · exact l.new o (by omega) h2 hl
theorem from_ok {L : List (List Int)} {A X E : List Int} {R : Nat} (f : FinR L A X E R) (hs : Shape L A.length) (ho : Ok L A) (hR60 : R ≤ 60) {P : List (List Int) → Hp → Prop} {base : Nat} {S : Nat → Prop} {fid : Nat} {dc : Array Value} (D : DoerC L A P base S fid dc) (od q om of_ : Nat) (av : Value) :
    ∀ (n : Nat) (h : Hp) (x B : List Int) (bv : Value) (En : List (Value × Value)) (s : List (List Int)), ReSt base od q om of_ fid dc En h → P s h → Rn L A x B → x.sum + (n : Int) = R → IRowsF (fun o => o < base ∧ ¬ S o) h av L → IntsF (fun o => (o < base ∧ ¬ S o) ∨ of_ < o) h bv B → MemC L A R En → ClosedK L A En → (∀ y, y.length = A.length → hasK En y → y ∈ s) →
    ∃ u h', CallOK Try.prog 161 #[.agg #[av, bv], keyC x, .pointer (some ⟨om, 0, none⟩), .pointer (some ⟨od, 0, none⟩), .pointer (some ⟨of_, 0, none⟩)] h u h' ∧ ∃ En' s', u = .int .i64 ((capN (wN L n B) : Nat) : Int) ∧ Wr (fun o => S o ∨ o = q) h h' ∧
      ReSt base od q om of_ fid dc En' h' ∧ P s' h' ∧ MemC L A R En' ∧ ClosedK L A En' ∧ (∀ y, hasK En y → hasK En' y) ∧ hasK En' x ∧ (∀ y, y.length = A.length → hasK En' y → y ∈ s') ∧ (∀ y ∈ s, y ∈ s') ∧ (∀ y ∈ s', y ∈ s ∨ ∃ C, Rn L A y C) := by
  intro n
  induction n using Nat.strongRecOn with
  | ind n ih =>
  intro h x B bv En s hst hP hr hx hL hB hM hC hks
  have hlen := hr.len
  have h5 := hs.le
  have hx5 : x.length ≤ 5 := by omega
  obtain ⟨a1, a2, a3, a4, a5, hpd⟩ := pad_five hx5
  have hkey := keyC_five hpd
  have hoB := hr.ok ho
  have hsB : Shape L B.length := hoB.sh
  obtain ⟨o1, o2, o3, o4, o5⟩ := hst.ord
  have nta := hL.sl.nt
  have csa := hL.sl.cs
  have ntb := hB.ints.nt
  have csb := hB.ints.cs
  have hfn := D.fn
  refine callY_L (args := [.agg #[av, bv], keyC x, .pointer (some ⟨om, 0, none⟩), .pointer (some ⟨od, 0, none⟩), .pointer (some ⟨of_, 0, none⟩)]) 65 _ [.tmp 7] Try.func161 rfl rfl rfl ?_
  rw [hkey]
  refine WD_first ?_
  try simp (disch := first | omega | (simp; done) | fail) [wrap64c, if_pos, if_neg, nta, csa, ntb, csb, hfn]
  refine stopK_heap fun h0 q_h0 => ?_
  refine stopK_go ?_
  have k0 : Adds h h0 := by rw [q_h0]; exact (by first | exact aK | exact kK)
  have n0 : h0.next = h.next + 2 := by simp [q_h0]
  have gc0 : h0.get h.next = .cells [av, bv] true true 1 := by simp [q_h0]
  have gk0 : h0.get (h.next + 1) = .cells [.int .i64 a1, .int .i64 a2, .int .i64 a3, .int .i64 a4, .int .i64 a5] true true 1 := by simp [q_h0]
  have hst0 := hst.keep k0.1.1 fun o _ ho => k0.1.2 o ho
  have gm0 := hst0.gm
  have gd0 := hst0.gd
  have gq0 := hst0.gq
  have hky : keysOK 5 En = true := hM.keys hs
  have hkk : isKey 5 (.agg #[.int .i64 a1, .int .i64 a2, .int .i64 a3, .int .i64 a4, .int .i64 a5]) = true := rfl
  have hP0 := D.stab s h h0 hP (by omega) k0.1.1 fun o ho => k0.1.2 o (by omega)
  rcases hM.get hs hr hx with hg | ⟨hg, hhas⟩
  case inr =>
    rw [hkey] at hg
    have hg := hg
    try simp (disch := first | omega | (simp; done) | fail) [wrap64c, if_pos, if_neg, nta, csa, ntb, csb, hfn, gc0, gk0, gm0, gd0, gq0, hky, hkk, hg]
    exact done_ret rfl ⟨En, s, rfl, .of_adds k0, hst0, hP0, hM, hC, fun y h => h, hhas, hks, fun y h => h, fun y h => .inl h⟩
  rw [hkey] at hg
  have hg := hg
  try simp (disch := first | omega | (simp; done) | fail) [wrap64c, if_pos, if_neg, nta, csa, ntb, csb, hfn, gc0, gk0, gm0, gd0, gq0, hky, hkk, hg]
  obtain ⟨u1, h1, hc1, W1, P1⟩ := D.run s h0 x B hP0 (by omega) hr
  rw [hkey] at hc1
  refine callG_f (fst := #[]) (cap := dc) (by simp) (by simp) ?hf ?hk ?ha (hc1) ?_
  (case hf => simp (disch := first | omega | (simp; done) | fail) [wrap64c, if_pos, if_neg, nta, csa, ntb, csb, hfn, gc0, gk0, gm0, gd0, gq0, hky, hkk, hg]; try rfl)
  (case hk => simp (disch := first | omega | (simp; done) | fail) [wrap64c, if_pos, if_neg, nta, csa, ntb, csb, hfn, gc0, gk0, gm0, gd0, gq0, hky, hkk, hg])
  (case ha => simp (disch := first | omega | (simp; done) | fail) [wrap64c, if_pos, if_neg, nta, csa, ntb, csb, hfn, gc0, gk0, gm0, gd0, gq0, hky, hkk, hg])
  have n1 := W1.upd.1
  have keep1 : ∀ o, base ≤ o → o < h0.next → h1.get o = h0.get o := fun o hb hl => W1.upd.2 o hl fun q => by have := D.low o q; omega
  have hst1 := hst0.keep n1 keep1
  have gc1 : h1.get h.next = .cells [av, bv] true true 1 := by rw [keep1 _ (by omega) (by omega)]; exact gc0
  have gk1 : h1.get (h.next + 1) = .cells [.int .i64 a1, .int .i64 a2, .int .i64 a3, .int .i64 a4, .int .i64 a5] true true 1 := by rw [keep1 _ (by omega) (by omega)]; exact gk0
  have Wq : Wr (fun o => S o ∨ o = q) h h1 := (Wr.of_adds k0).trans (W1.mono fun o _ e => .inl e)
  have hL1 := hL.same (Wq.upd.same fun o ho e => by rcases e with e | e; exact ho.2 e; have := ho.1; omega)
  have hB1 := hB.same (Wq.upd.same fun o ho e => by
    rcases ho with ho | ho <;> rcases e with e | e
    · exact ho.2 e
    · have := ho.1; omega
    · have := D.low o e; omega
    · omega)
  obtain ⟨u2, h2, hc2, ha2, hu2⟩ := imMoves_ok h1 (.agg #[av, bv]) L B ⟨av, bv, rfl, hL1.rows, hB1.ints⟩ hsB
  have n2 := ha2.1.1
  obtain ⟨M, hMe⟩ : ∃ M, M = movesL L B := ⟨_, rfl⟩
  have hMl : M.length ≤ 5 := by rw [hMe]; have := movesL_length L B; omega
  rw [← hMe] at hu2
  have lM := hu2.lenD
  try simp (disch := first | omega | (simp; done) | fail) [wrap64c, if_pos, if_neg, nta, csa, ntb, csb, hfn, gc0, gk0, gm0, gd0, gq0, hky, hkk, hg, gc1, gk1, lM]
  refine callG_c (by simp) (by simp) ?ha (hc2) ?_
  (case ha => simp (disch := first | omega | (simp; done) | fail) [wrap64c, if_pos, if_neg, nta, csa, ntb, csb, hfn, gc0, gk0, gm0, gd0, gq0, hky, hkk, hg, gc1, gk1, lM])
  have hst2 := hst1.keep n2 fun o _ hl => ha2.1.2 o hl
  have P2 := D.stab _ h1 h2 P1 (by omega) n2 fun o hl => ha2.1.2 o (by omega)
  have gc2 : h2.get h.next = .cells [av, bv] true true 1 := by rw [ha2.1.2 _ (by omega)]; exact gc1
  have gk2 : h2.get (h.next + 1) = .cells [.int .i64 a1, .int .i64 a2, .int .i64 a3, .int .i64 a4, .int .i64 a5] true true 1 := by rw [ha2.1.2 _ (by omega)]; exact gk1
  have W2 : Wr (fun o => S o ∨ o = q) h h2 := Wq.trans (.of_adds ha2)
  by_cases hM0 : M.length = 0
  · have hM0' : ((M.length : Int) == 0) = true := by simp [hM0]
    have hMv : movesL L B = [] := by rw [← hMe]; exact List.length_eq_zero_iff.1 hM0
    have hw1 : wN L n B = 1 := by cases n <;> simp [wN, hMv]
    have hcap : ((capN (wN L n B) : Nat) : Int) = 1 := by rw [hw1]; rfl
    try simp (disch := first | omega | (simp; done) | fail) [wrap64c, if_pos, if_neg, nta, csa, ntb, csb, hfn, gc0, gk0, gm0, gd0, gq0, hky, hkk, hg, gc1, gk1, lM, hM0']
    refine WD_loopC [2, 4, 5, 6, 32, 33] (fun m tm h' => ∃ j, m = M.length - j ∧ h2 = h' ∧ tm 11 = .int .i64 1 ∧ tm 34 = .int .i64 (j : Int) ∧ (j ≤ M.length)) _ ⟨0, rfl, rfl, (by simp (disch := first | omega | (simp; done) | fail) [wrap64c, if_pos, if_neg, nta, csa, ntb, csb, hfn, gc0, gk0, gm0, gd0, gq0, hky, hkk, hg, gc1, gk1, lM, hM0']), (by simp (disch := first | omega | (simp; done) | fail) [wrap64c, if_pos, if_neg, nta, csa, ntb, csb, hfn, gc0, gk0, gm0, gd0, gq0, hky, hkk, hg, gc1, gk1, lM, hM0']), (by first | omega | assumption | (simp (disch := first | omega | (simp; done) | fail) [wrap64c, if_pos, if_neg, nta, csa, ntb, csb, hfn, gc0, gk0, gm0, gd0, gq0, hky, hkk, hg, gc1, gk1, lM, hM0'] <;> omega))⟩ ?_
    rintro m tm h' hFr ⟨j, rfl, rfl, e11, e34, hj⟩
    simp only [FrameL] at hFr
    obtain ⟨f2_0, f4_0, f5_0, f6_0, f32_0, f33_0, -⟩ := hFr
    try simp (disch := first | omega | (simp; done) | fail) [wrap64c, if_pos, if_neg, nta, csa, ntb, csb, hfn, gc0, gk0, gm0, gd0, gq0, hky, hkk, hg, gc1, gk1, lM, hM0'] at f2_0 f4_0 f5_0 f6_0 f32_0 f33_0
    have e2 := f2_0
    have e4 := f4_0
    have e5 := f5_0
    have e6 := f6_0
    have e32 := f32_0
    have e33 := f33_0
    have hjl : ¬ (j : Int) < (M.length : Int) := by omega
    try simp (disch := first | omega | (simp; done) | fail) [wrap64c, if_pos, if_neg, nta, csa, ntb, csb, hfn, gc0, gk0, gm0, gd0, gq0, hky, hkk, hg, gc1, gk1, lM, hM0', e2, e4, e5, e6, e11, e32, e33, e34, hjl]
    have hks2 : ∀ y, y.length = A.length → hasK En y → y ∈ x :: s := fun y h1 h2 => by simp [hks y h1 h2]
    have hre2 : ∀ y ∈ x :: s, y ∈ s ∨ ∃ C, Rn L A y C := fun y hy => by
      rcases List.mem_cons.1 hy with rfl | hy
      · exact .inr ⟨_, hr⟩
      · exact .inl hy
    have hch : ∀ i, i < B.length → canB L B i = true → hasK En (x.set i (x.getD i 0 + 1)) := fun i hi hc => by rw [moves_nil hMv hi] at hc; cases hc
    have hsub2 : ∀ y ∈ x :: s, y ∈ x :: s := fun y h => h
    have hmo2 : ∀ y, hasK En y → hasK En y := fun y h => h
    have hky9 : keysOK 5 En = true := hM.keys hs
    have gm9 := hst2.gm
    have gq9 := hst2.gq
    have gk9 := gk2
    try simp (disch := first | omega | (simp; done) | fail) [wrap64c, if_pos, if_neg, nta, csa, ntb, csb, hfn, gc0, gk0, gm0, gd0, gq0, hky, hkk, hg, gc1, gk1, lM, hM0', e2, e4, e5, e6, e11, e32, e33, e34, hjl, hky9, gm9, gq9, gk9]
    have hlA : ∀ {y : List Int}, y.length = A.length → keyC y = keyC x → y = x := fun {y} hy he => by
      have h1 : isKey 5 (keyC y) = true := keyC_ok (by omega)
      have h2 : isKey 5 (keyC x) = true := keyC_ok (by omega)
      exact (keyB_C (by omega) (by omega)).1 ((keyB_iff h1 h2).2 he)
    have hput : ∀ y v, hasK (mapPut En (keyC x) v) y ↔ keyC y = keyC x ∨ hasK En y := fun y v => hasK_put (n := A.length) (by omega) hlen.2 hM.lens
    refine done_ret rfl ⟨mapPut En (keyC x) (.int .i64 ((capN (wN L n B) : Nat) : Int)), (x :: s), (by rw [hcap]; rfl), ?_, ?_, ?_, hM.put hr hx, ?_, ?_, ?_, ?_, ?_, ?_⟩
    · exact (W2).put (o := q) (.inr rfl) (fun _ => rfl)
    · rw [hkey, hcap]; exact hst2.putq
    · exact D.stab _ _ _ P2 (by have := hst2.ord; omega) (by simp) fun o hl => by simp [show o ≠ q by omega]
    · intro y C i hy hk hi hc
      rw [hput] at hk ⊢
      right
      rcases hk with hk | hk
      · have := hlA hy.len.2 hk
        subst this
        have hBC := hr.same hy hs
        subst hBC
        exact hch i hi hc
      · exact hC y C i hy hk hi hc
    · exact fun y hy => (hput _ _).2 (.inr (hmo2 y hy))
    · exact (hput _ _).2 (.inl rfl)
    · intro y hy hk
      rcases (hput _ _).1 hk with hk | hk
      · rw [hlA hy hk]; exact hsub2 x (by simp)
      · exact hks2 y hy hk
    · exact fun y hy => hsub2 y (by simp [hy])
    · exact hre2
  · have hM0' : ((M.length : Int) == 0) = false := by simp [hM0]
    have hne : movesL L B ≠ [] := fun e => hM0 (by rw [hMe, e]; rfl)
    obtain ⟨pd, rfl⟩ : ∃ p, n = p + 1 := by
      cases n with
      | zero =>
        have := (f.end hs hr (by omega)).2
        rw [this] at hne
        exact absurd f.last hne
      | succ p => exact ⟨p, rfl⟩
    have hwn : wN L (pd + 1) B = (M.map fun k => wN L pd (moveA L B k.toNat)).sum := by rw [wN, if_neg hne, hMe]
    have hre2 : ∀ y ∈ x :: s, y ∈ s ∨ ∃ C, Rn L A y C := fun y hy => by
      rcases List.mem_cons.1 hy with rfl | hy
      · exact .inr ⟨_, hr⟩
      · exact .inl hy
    try simp (disch := first | omega | (simp; done) | fail) [wrap64c, if_pos, if_neg, nta, csa, ntb, csb, hfn, gc0, gk0, gm0, gd0, gq0, hky, hkk, hg, gc1, gk1, lM, hM0']
    refine WD_loopC [2, 4, 5, 6, 32, 33] (fun m tm h' => ∃ j E1 s1, m = M.length - j ∧ tm 11 = .int .i64 ((capN ((M.take j).map fun k => wN L pd (moveA L B k.toNat)).sum : Nat) : Int) ∧ tm 34 = .int .i64 (j : Int) ∧ (j ≤ M.length) ∧ (Wr (fun o => S o ∨ o = q) h2 h') ∧ (ReSt base od q om of_ fid dc E1 h') ∧ (P s1 h') ∧ (MemC L A R E1) ∧ (ClosedK L A E1) ∧ (∀ y, hasK En y → hasK E1 y) ∧ (∀ y, y.length = A.length → hasK E1 y → y ∈ s1) ∧ (∀ y ∈ x :: s, y ∈ s1) ∧ (∀ y ∈ s1, y ∈ s ∨ ∃ C, Rn L A y C) ∧ (∀ k (hk : k < M.length), k < j → hasK E1 (x.set M[k].toNat (x.getD M[k].toNat 0 + 1)))) _ ⟨0, En, (x :: s), rfl, (by simp [capN]), (by simp (disch := first | omega | (simp; done) | fail) [wrap64c, if_pos, if_neg, nta, csa, ntb, csb, hfn, gc0, gk0, gm0, gd0, gq0, hky, hkk, hg, gc1, gk1, lM, hM0']), (by first | omega | assumption | (simp (disch := first | omega | (simp; done) | fail) [wrap64c, if_pos, if_neg, nta, csa, ntb, csb, hfn, gc0, gk0, gm0, gd0, gq0, hky, hkk, hg, gc1, gk1, lM, hM0'] <;> omega)), (Wr.refl _ _), hst2, P2, hM, hC, (fun y h => h), (fun y h1 h2 => by simp [hks y h1 h2]), (fun y h => h), hre2, (fun k _ h0 => by omega)⟩ ?_
    rintro m tm h' hFr ⟨j, E1, s1, rfl, e11, e34, hj, hW, hT, hPP, hMM, hCC, hmo, hk1, hub, hre, hch⟩
    simp only [FrameL] at hFr
    obtain ⟨f2_1, f4_1, f5_1, f6_1, f32_1, f33_1, -⟩ := hFr
    try simp (disch := first | omega | (simp; done) | fail) [wrap64c, if_pos, if_neg, nta, csa, ntb, csb, hfn, gc0, gk0, gm0, gd0, gq0, hky, hkk, hg, gc1, gk1, lM, hM0'] at f2_1 f4_1 f5_1 f6_1 f32_1 f33_1
    have e2 := f2_1
    have e4 := f4_1
    have e5 := f5_1
    have e6 := f6_1
    have e32 := f32_1
    have e33 := f33_1
    rename Hp => hq
    have n3 := hW.upd.1
    have keep3 : ∀ o, base ≤ o → o < h2.next → o ≠ q → hq.get o = h2.get o := fun o hb hl hne => hW.upd.2 o hl fun e => by
      rcases e with e | e
      · have := D.low o e; omega
      · exact hne e
    have gc3 : hq.get h.next = .cells [av, bv] true true 1 := by rw [keep3 _ (by omega) (by omega) (by omega)]; exact gc2
    have gk3 : hq.get (h.next + 1) = .cells [.int .i64 a1, .int .i64 a2, .int .i64 a3, .int .i64 a4, .int .i64 a5] true true 1 := by rw [keep3 _ (by omega) (by omega) (by omega)]; exact gk2
    have W3 := W2.trans hW
    have hu3 := hu2.same (hW.upd.same fun o ho e => by
      have := ho.1
      rcases e with e | e
      · have := D.low o e; omega
      · omega)
    by_cases hlt : j < M.length
    · obtain ⟨i, hi1, hiB, hiC, hxi, hr2, hs2, hR2⟩ := f.next hs hr (show M[j] ∈ movesL L B by rw [← hMe]; exact List.getElem_mem hlt)
      have hi1' := hi1
      have hL3 := hL.same (W3.upd.same fun o ho e => by rcases e with e | e; exact ho.2 e; have := ho.1; omega)
      have hB3 := hB.same (W3.upd.same fun o ho e => by
        rcases ho with ho | ho <;> rcases e with e | e
        · exact ho.2 e
        · have := ho.1; omega
        · have := D.low o e; omega
        · omega)
      obtain ⟨o_y, i_y, c_y, cs_y, own_y, ex_y, es_y, q_y, b_y, g_y, l_y, r_y⟩ := (hu3.ints).open ((by omega))
      have z_y : ∀ h2 : i_y < cs_y.length, cs_y[i_y] = _ := fun h2 => r_y 0 ((by omega)) h2
      try simp (disch := first | omega | (simp; done) | fail) [wrap64c, if_pos, if_neg, nta, csa, ntb, csb, hfn, gc0, gk0, gm0, gd0, gq0, hky, hkk, hg, gc1, gk1, lM, hM0', e2, e4, e5, e6, e11, e32, e33, e34, gc3, gk3, hlt, hi1', q_y, g_y, l_y, r_y, z_y]
      refine WD_drawC 7 rfl (by kernel_rfl) ?_
      try simp (disch := first | omega | (simp; done) | fail) [wrap64c, if_pos, if_neg, nta, csa, ntb, csb, hfn, gc0, gk0, gm0, gd0, gq0, hky, hkk, hg, gc1, gk1, lM, hM0', e2, e4, e5, e6, e11, e32, e33, e34, gc3, gk3, hlt, hi1', q_y, g_y, l_y, r_y, z_y]
      obtain ⟨u4, h4, hc4, ha4, hu4⟩ := clone_ok hq bv B hB3.ints (by omega)
      refine callP_c (by simp) (by simp) ?ha (hc4) ?hadd ?_
      (case ha => simp (disch := first | omega | (simp; done) | fail) [wrap64c, if_pos, if_neg, nta, csa, ntb, csb, hfn, gc0, gk0, gm0, gd0, gq0, hky, hkk, hg, gc1, gk1, lM, hM0', e2, e4, e5, e6, e11, e32, e33, e34, gc3, gk3, hlt, hi1', q_y, g_y, l_y, r_y, z_y])
      (case hadd => first | assumption | exact adds_self _ | (simp; done))
      have n4 := ha4.1.1
      have nt4 := hu4.nt
      have cs4 := hu4.cs
      try simp (disch := first | omega | (simp; done) | fail) [wrap64c, if_pos, if_neg, nta, csa, ntb, csb, hfn, gc0, gk0, gm0, gd0, gq0, hky, hkk, hg, gc1, gk1, lM, hM0', e2, e4, e5, e6, e11, e32, e33, e34, gc3, gk3, hlt, hi1', q_y, g_y, l_y, r_y, z_y, nt4, cs4, putCells]
      first | refine WY_heap fun h5 q_h5 => ?_ | refine callG_heap fun h5 q_h5 => ?_ | refine callP_heap fun h5 q_h5 => ?_ | refine RY_heap fun h5 q_h5 => ?_ | refine PY_heap fun h5 q_h5 => ?_ | refine doneY_heap fun h5 q_h5 => ?_ | refine loopK_heap fun h5 q_h5 => ?_ | refine thenY_heap fun h5 q_h5 => ?_ | refine thenM_heap fun h5 q_h5 => ?_
      have k5 : Adds h4 h5 := by rw [q_h5]; exact (by first | exact aK | exact kK)
      have n5 : h5.next = h4.next + 1 := by simp [q_h5]
      have g5 : h5.get h4.next = .cells [av, u4] true true 1 := by simp [q_h5]
      have hu5 := hu4.keep k5.1
      obtain ⟨_, h6, hc6, rfl, W6, hu6⟩ := imMove_ok (Btw hq.next h4.next) (fun o => o < base ∧ ¬ S o) h5 av u4 L B i ((hL3.keep ha4.1).keep k5.1) hu5 (fun o ho e => by have := ho.1; have := e.1; omega) hsB hoB.small hiB
      refine callG_c (by simp) (by simp) ?ha (hc6) ?_
      (case ha => simp (disch := first | omega | (simp; done) | fail) [wrap64c, if_pos, if_neg, nta, csa, ntb, csb, hfn, gc0, gk0, gm0, gd0, gq0, hky, hkk, hg, gc1, gk1, lM, hM0', e2, e4, e5, e6, e11, e32, e33, e34, gc3, gk3, hlt, hi1', q_y, g_y, l_y, r_y, z_y, nt4, cs4, g5])
      have n6 := W6.upd.1
      have keep6 : ∀ o, o < hq.next → h6.get o = hq.get o := fun o hl => by rw [W6.upd.2 o (by omega) (fun e => by have := e.1; omega), k5.1.2 o (by omega), ha4.1.2 o hl]
      have g6 : h6.get h4.next = .cells [av, u4] true true 1 := by rw [W6.upd.2 _ (by omega) (fun e => by have := e.2; omega)]; exact g5
      have gc6 : h6.get h.next = .cells [av, bv] true true 1 := by rw [keep6 _ (by omega)]; exact gc3
      have gk6 : h6.get (h.next + 1) = .cells [.int .i64 a1, .int .i64 a2, .int .i64 a3, .int .i64 a4, .int .i64 a5] true true 1 := by rw [keep6 _ (by omega)]; exact gk3
      have hpl := pad_len hx5
      have hip : i < (pad x).length := by omega
      have hpi := pad_at hxi hip
      have hxb := hr.small (by have := f.le hs hr; omega) _ (List.getElem_mem hxi)
      have hi5 : i < 5 := by omega
      have hl5 : ([Value.int .i64 a1, .int .i64 a2, .int .i64 a3, .int .i64 a4, .int .i64 a5][i]'(by simp; omega)) = .int .i64 x[i] := by
        have e : ([Value.int .i64 a1, .int .i64 a2, .int .i64 a3, .int .i64 a4, .int .i64 a5][i]?) = ((pad x).map (.int .i64))[i]? := by rw [hpd]; rfl
        rw [List.getElem?_eq_getElem (by simp; omega), List.getElem?_map, List.getElem?_eq_getElem hip, hpi] at e
        exact Option.some.inj e
      have hl5' := hl5
      have hp5 : putCells [Value.int .i64 0, .int .i64 0, .int .i64 0, .int .i64 0, .int .i64 0] 0 [.int .i64 a1, .int .i64 a2, .int .i64 a3, .int .i64 a4, .int .i64 a5] = [.int .i64 a1, .int .i64 a2, .int .i64 a3, .int .i64 a4, .int .i64 a5] := rfl
      have gf6 : h6.get of_ = .cells [.func (.func 161) #[] #[.pointer (some ⟨om, 0, none⟩), .pointer (some ⟨od, 0, none⟩), .pointer (some ⟨of_, 0, none⟩)]] true true 1 := by rw [keep6 _ (by omega)]; exact hT.gf
      obtain ⟨x', hx'⟩ : ∃ y, y = x.set i (x[i] + 1) := ⟨_, rfl⟩
      rw [← hx'] at hr2 hs2
      have hx'5 : x'.length ≤ 5 := by rw [hx']; simpa using hx5
      obtain ⟨b1, b2, b3, b4, b5, hpd'⟩ := pad_five hx'5
      have hkey' := keyC_five hpd'
      have hpc : putCells [Value.int .i64 a1, .int .i64 a2, .int .i64 a3, .int .i64 a4, .int .i64 a5] i [.int .i64 (x[i] + 1)] = [.int .i64 b1, .int .i64 b2, .int .i64 b3, .int .i64 b4, .int .i64 b5] := by
        rw [putCells_one (by simp; omega)]
        have e1 : [Value.int .i64 a1, .int .i64 a2, .int .i64 a3, .int .i64 a4, .int .i64 a5] = (pad x).map (.int .i64) := by rw [hpd]; rfl
        have e2 : [Value.int .i64 b1, .int .i64 b2, .int .i64 b3, .int .i64 b4, .int .i64 b5] = (pad x').map (.int .i64) := by rw [hpd']; rfl
        rw [e1, e2, hx', pad_set hxi, List.map_set]
      have hpc' := hpc
      obtain ⟨c1, hc1e⟩ : ∃ c, c = capN ((M.take j).map fun k => wN L pd (moveA L B k.toNat)).sum := ⟨_, rfl⟩
      obtain ⟨c2, hc2e⟩ : ∃ c, c = capN (wN L pd (moveA L B i)) := ⟨_, rfl⟩
      have hcl := capN_le ((M.take j).map fun k => wN L pd (moveA L B k.toNat)).sum
      have hcr := capN_le (wN L pd (moveA L B i))
      rw [← hc1e] at hcl e11
      rw [← hc2e] at hcr
      have hif : (if (1000000001 : Int) < (c1 : Int) + (c2 : Int) then 1000000001 else (c1 : Int) + (c2 : Int)) = ((capN (c1 + c2) : Nat) : Int) := by unfold capN; split <;> omega
      have hif' := hif
      try simp (disch := first | omega | (simp; done) | fail) [wrap64c, if_pos, if_neg, nta, csa, ntb, csb, hfn, gc0, gk0, gm0, gd0, gq0, hky, hkk, hg, gc1, gk1, lM, hM0', e2, e4, e5, e6, e11, e32, e33, e34, gc3, gk3, hlt, hi1', q_y, g_y, l_y, r_y, z_y, nt4, cs4, g5, g6, gc6, gk6, hi5, hl5', hp5, gf6, hpc', hif']
      first | refine WY_heap fun h7 q_h7 => ?_ | refine callG_heap fun h7 q_h7 => ?_ | refine callP_heap fun h7 q_h7 => ?_ | refine RY_heap fun h7 q_h7 => ?_ | refine PY_heap fun h7 q_h7 => ?_ | refine doneY_heap fun h7 q_h7 => ?_ | refine loopK_heap fun h7 q_h7 => ?_ | refine thenY_heap fun h7 q_h7 => ?_ | refine thenM_heap fun h7 q_h7 => ?_
      have k7 : Adds h6 h7 := by rw [q_h7]; exact (by first | exact aK | exact kK)
      have n7 : h7.next = h6.next + 1 := by simp [q_h7]
      have g7 : h7.get h6.next = .cells [.int .i64 b1, .int .i64 b2, .int .i64 b3, .int .i64 b4, .int .i64 b5] true true 1 := by rw [q_h7]; simp
      have hst7 : ReSt base od q om of_ fid dc E1 h7 := hT.keep (by omega) fun o hb hl => by rw [k7.1.2 o (by omega), keep6 o hl]
      have gf7 := hst7.gf
      have gc7 : h7.get h.next = .cells [av, bv] true true 1 := by rw [k7.1.2 _ (by omega)]; exact gc6
      have gk7 : h7.get (h.next + 1) = .cells [.int .i64 a1, .int .i64 a2, .int .i64 a3, .int .i64 a4, .int .i64 a5] true true 1 := by rw [k7.1.2 _ (by omega)]; exact gk6
      have gs7 : h7.get h4.next = .cells [av, u4] true true 1 := by rw [k7.1.2 _ (by omega)]; exact g6
      have hP7 := D.stab _ hq h7 hPP (by omega) (by omega) fun o hl => by rw [k7.1.2 o (by omega), keep6 o (by omega)]
      have W7 : Wr (fun o => S o ∨ o = q) hq h7 := (wr_trans3 ((Wr.of_adds ha4).trans (.of_adds k5)) W6 (fun o hl e => by have := e.1; omega)).trans (.of_adds k7)
      have hL7 : IRowsF (fun o => o < base ∧ ¬ S o) h7 av L := hL3.same ⟨by omega, fun o ho hl => by rw [k7.1.2 o (by omega), keep6 o hl]⟩
      have hB7 : IntsF (fun o => (o < base ∧ ¬ S o) ∨ of_ < o) h7 u4 (moveA L B i) := (hu6.keep k7.1).read.sub fun o ho => .inr (by have := ho.1; omega)
      obtain ⟨_, h8, hc8, E8, s8, rfl, W8, hT8, hP8, hM8, hC8, mo8, has8, ks8, ub8, re8⟩ := ih pd (by omega) h7 x' (moveA L B i) u4 E1 s1 hst7 hP7 hr2 (by rw [hs2]; omega) hL7 hB7 hMM hCC hk1
      rw [hkey', ← hc2e] at hc8
      have n8 := W8.upd.1
      try simp (disch := first | omega | (simp; done) | fail) [wrap64c, if_pos, if_neg, nta, csa, ntb, csb, hfn, gc0, gk0, gm0, gd0, gq0, hky, hkk, hg, gc1, gk1, lM, hM0', e2, e4, e5, e6, e11, e32, e33, e34, gc3, gk3, hlt, hi1', q_y, g_y, l_y, r_y, z_y, nt4, cs4, g5, g6, gc6, gk6, hi5, hl5', hp5, gf6, hpc', hif', g7, gf7, gs7]
      refine callG_f (fst := #[]) (cap := #[.pointer (some ⟨om, 0, none⟩), .pointer (some ⟨od, 0, none⟩), .pointer (some ⟨of_, 0, none⟩)]) (by simp) (by simp) ?hf ?hk ?ha (hc8) ?_
      (case hf => simp (disch := first | omega | (simp; done) | fail) [wrap64c, if_pos, if_neg, nta, csa, ntb, csb, hfn, gc0, gk0, gm0, gd0, gq0, hky, hkk, hg, gc1, gk1, lM, hM0', e2, e4, e5, e6, e11, e32, e33, e34, gc3, gk3, hlt, hi1', q_y, g_y, l_y, r_y, z_y, nt4, cs4, g5, g6, gc6, gk6, hi5, hl5', hp5, gf6, hpc', hif', g7, gf7, gs7]; try rfl)
      (case hk => simp (disch := first | omega | (simp; done) | fail) [wrap64c, if_pos, if_neg, nta, csa, ntb, csb, hfn, gc0, gk0, gm0, gd0, gq0, hky, hkk, hg, gc1, gk1, lM, hM0', e2, e4, e5, e6, e11, e32, e33, e34, gc3, gk3, hlt, hi1', q_y, g_y, l_y, r_y, z_y, nt4, cs4, g5, g6, gc6, gk6, hi5, hl5', hp5, gf6, hpc', hif', g7, gf7, gs7])
      (case ha => simp (disch := first | omega | (simp; done) | fail) [wrap64c, if_pos, if_neg, nta, csa, ntb, csb, hfn, gc0, gk0, gm0, gd0, gq0, hky, hkk, hg, gc1, gk1, lM, hM0', e2, e4, e5, e6, e11, e32, e33, e34, gc3, gk3, hlt, hi1', q_y, g_y, l_y, r_y, z_y, nt4, cs4, g5, g6, gc6, gk6, hi5, hl5', hp5, gf6, hpc', hif', g7, gf7, gs7])
      try simp (disch := first | omega | (simp; done) | fail) [wrap64c, if_pos, if_neg, nta, csa, ntb, csb, hfn, gc0, gk0, gm0, gd0, gq0, hky, hkk, hg, gc1, gk1, lM, hM0', e2, e4, e5, e6, e11, e32, e33, e34, gc3, gk3, hlt, hi1', q_y, g_y, l_y, r_y, z_y, nt4, cs4, g5, g6, gc6, gk6, hi5, hl5', hp5, gf6, hpc', hif', g7, gf7, gs7]
      have htk : ((M.take (j + 1)).map fun k => wN L pd (moveA L B k.toNat)).sum = ((M.take j).map fun k => wN L pd (moveA L B k.toNat)).sum + wN L pd (moveA L B i) := by
        rw [List.take_succ_eq_append_getElem hlt, List.map_append, List.sum_append, hi1]; simp
      have hc12 : capN (c1 + c2) = capN (((M.take j).map fun k => wN L pd (moveA L B k.toNat)).sum + wN L pd (moveA L B i)) := by rw [hc1e, hc2e, capN_add]
      refine loopK_next _ ?hm ?hf ⟨j + 1, E8, s8, rfl, (by rw [htk, ← hc12]; simp), (by simp (disch := first | omega | (simp; done) | fail) [wrap64c, if_pos, if_neg, nta, csa, ntb, csb, hfn, gc0, gk0, gm0, gd0, gq0, hky, hkk, hg, gc1, gk1, lM, hM0', e2, e4, e5, e6, e11, e32, e33, e34, gc3, gk3, hlt, hi1', q_y, g_y, l_y, r_y, z_y, nt4, cs4, g5, g6, gc6, gk6, hi5, hl5', hp5, gf6, hpc', hif', g7, gf7, gs7] <;> omega), (by first | omega | assumption | (simp (disch := first | omega | (simp; done) | fail) [wrap64c, if_pos, if_neg, nta, csa, ntb, csb, hfn, gc0, gk0, gm0, gd0, gq0, hky, hkk, hg, gc1, gk1, lM, hM0', e2, e4, e5, e6, e11, e32, e33, e34, gc3, gk3, hlt, hi1', q_y, g_y, l_y, r_y, z_y, nt4, cs4, g5, g6, gc6, gk6, hi5, hl5', hp5, gf6, hpc', hif', g7, gf7, gs7] <;> omega)), (hW.trans (W7.trans W8)), hT8, hP8, hM8, hC8, (fun y hy => mo8 y (hmo y hy)), ks8, (fun y hy => ub8 y (hub y hy)), ?c_hre, ?c_hch⟩
      (case hm => first | omega | (simp; omega))
      (case hf => simp [FrameL, nta, csa, ntb, csb, hfn, gc0, gk0, gm0, gd0, gq0, hky, hkk, hg, gc1, gk1, lM, hM0', e2, e4, e5, e6, e11, e32, e33, e34, gc3, gk3, hlt, hi1', q_y, g_y, l_y, r_y, z_y, nt4, cs4, g5, g6, gc6, gk6, hi5, hl5', hp5, gf6, hpc', hif', g7, gf7, gs7, f2_1, f4_1, f5_1, f6_1, f32_1, f33_1])
      case c_hre =>
        exact (fun y hy => by
          rcases re8 y hy with h1 | h1
          · exact hre y h1
          · exact .inr h1)
      case c_hch =>
        exact (fun k hk hkj => by
          by_cases ek : k = j
          · subst ek
            rw [hi1, Int.toNat_natCast, getD_at hxi, ← hx']; exact has8
          · exact mo8 _ (hch k hk (by omega)))
    · have hje : j = M.length := by omega
      rw [hje, List.take_length, ← hwn] at e11
      have hcap : ((capN (wN L (pd + 1) B) : Nat) : Int) = ((capN (wN L (pd + 1) B) : Nat) : Int) := rfl
      have hch2 : ∀ i, i < B.length → canB L B i = true → hasK E1 (x.set i (x.getD i 0 + 1)) := fun i hi hc => by
        have hm : (i : Int) ∈ M := by rw [hMe]; exact List.mem_map.2 ⟨i, List.mem_filter.2 ⟨by simpa using hi, hc⟩, rfl⟩
        obtain ⟨k, hk, e⟩ := List.getElem_of_mem hm
        have := hch k hk (by omega)
        rw [e] at this
        simpa using this
      try simp (disch := first | omega | (simp; done) | fail) [wrap64c, if_pos, if_neg, nta, csa, ntb, csb, hfn, gc0, gk0, gm0, gd0, gq0, hky, hkk, hg, gc1, gk1, lM, hM0', e2, e4, e5, e6, e11, e32, e33, e34, gc3, gk3, hlt]
      have hky9 : keysOK 5 E1 = true := hMM.keys hs
      have gm9 := hT.gm
      have gq9 := hT.gq
      have gk9 := gk3
      try simp (disch := first | omega | (simp; done) | fail) [wrap64c, if_pos, if_neg, nta, csa, ntb, csb, hfn, gc0, gk0, gm0, gd0, gq0, hky, hkk, hg, gc1, gk1, lM, hM0', e2, e4, e5, e6, e11, e32, e33, e34, gc3, gk3, hlt, hky9, gm9, gq9, gk9]
      have hlA : ∀ {y : List Int}, y.length = A.length → keyC y = keyC x → y = x := fun {y} hy he => by
        have h1 : isKey 5 (keyC y) = true := keyC_ok (by omega)
        have h2 : isKey 5 (keyC x) = true := keyC_ok (by omega)
        exact (keyB_C (by omega) (by omega)).1 ((keyB_iff h1 h2).2 he)
      have hput : ∀ y v, hasK (mapPut E1 (keyC x) v) y ↔ keyC y = keyC x ∨ hasK E1 y := fun y v => hasK_put (n := A.length) (by omega) hlen.2 hMM.lens
      refine done_ret rfl ⟨mapPut E1 (keyC x) (.int .i64 ((capN (wN L (pd + 1) B) : Nat) : Int)), s1, rfl, ?_, ?_, ?_, hMM.put hr hx, ?_, ?_, ?_, ?_, ?_, ?_⟩
      · exact (W3).put (o := q) (.inr rfl) (fun _ => rfl)
      · rw [hkey, hcap]; exact hT.putq
      · exact D.stab _ _ _ hPP (by have := hT.ord; omega) (by simp) fun o hl => by simp [show o ≠ q by omega]
      · intro y C i hy hk hi hc
        rw [hput] at hk ⊢
        right
        rcases hk with hk | hk
        · have := hlA hy.len.2 hk
          subst this
          have hBC := hr.same hy hs
          subst hBC
          exact hch2 i hi hc
        · exact hCC y C i hy hk hi hc
      · exact fun y hy => (hput _ _).2 (.inr (hmo y hy))
      · exact (hput _ _).2 (.inl rfl)
      · intro y hy hk
        rcases (hput _ _).1 hk with hk | hk
        · rw [hlA hy hk]; exact hub x (by simp)
        · exact hk1 y hy hk
      · exact fun y hy => hub y (by simp [hy])
      · exact hre
end Go.Proofs.Ytnjabaeajjhliaa
