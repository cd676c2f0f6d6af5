/- Random walks: what both sides hand back. -/
import Derived.Test.YtpehnhjgdgnnkaaS8
namespace Go.Proofs.Ytpehnhjgdgnnkaa
set_option linter.unusedSimpArgs false
set_option linter.unusedVariables false
set_option maxHeartbeats 4000000
open Go Go.Eng
attribute [local irreducible] WD RunD PreD Runs CallOK

/-- One number more, as the program does it; what does not lie where the slice lies stays as it was. -/
theorem appI2 {n : Nat} {h0 h : Hp} {v : Value} {xs : List Int} (hs : IntsA n h v xs) (x : Int) (hl : xs.length < 2 ^ 40) (hn : n ≤ h.next) (hA : Adds h0 h) (h0n : h0.next ≤ n) :
    ∃ v' h', appendD Try.prog 22 22 v (.slice (some ⟨h.next, 0, none⟩) 1 1) (h.alloc (.cells [.int .i64 x] true true 1)) = some (v', h') ∧ IntsA n h' v' (xs ++ [x]) ∧ Adds h0 h' ∧ h.next < h'.next ∧
      (∀ F : Nat → Prop, (∀ o, F o → o < h.next) → OffF F v → Same F h h' ∧ OffF F v') := by
  obtain ⟨v', h', g1, g2, g3, g4, g5, g6⟩ := append_one2 (P := Try.prog) (t := 22) (t' := 22) (x := x) (q := h.next) (h := h.alloc (.cells [.int .i64 x] true true 1)) (qx := true) (n := n) (v := v) (xs := xs) (by
    rcases hs with ⟨a, b⟩ | ⟨o, ex, a, b, c, d⟩
    · exact .inl ⟨a, b⟩
    · exact .inr ⟨o, ex, a, b, Nat.lt_succ_of_lt c, by simp [Nat.ne_of_lt c, d]⟩) ty_elT_22 ty_szT_3 ty_zeroT_3 ty_byT_3 (by decide) (by decide) (by simp) (by simp) hl (by simp; omega) (show Adds h0 _ from (by repeat (first | exact keep_self _ | exact adds_self _ | assumption | exact Adds.keeps (by assumption) | refine keeps_alloc ?_ _ | refine adds_alloc ?_ _ _ _ | refine adds_allocM ?_ _ | (refine keeps_put ?_ ?hle _; (case hle => first | omega | (simp; done) | (simp; omega))) | (refine adds_put ?_ ?hle _ _ _; (case hle => first | omega | (simp; done) | (simp; omega)))))) h0n
  refine ⟨v', h', g1, g2, g3, Nat.lt_of_le_of_lt (by simp) g4, fun F hF hO => ⟨?_, g6 F fun o ho => Nat.lt_succ_of_lt (hF o ho)⟩⟩
  have := g5 F hO
  exact ⟨Nat.le_trans (Nat.le_succ _) this.1, fun o ho ho' => by rw [this.2 o ho (Nat.lt_succ_of_lt ho')]; simp [Nat.ne_of_lt ho']⟩
theorem ia_read {n : Nat} {h : Hp} {v : Value} {xs : List Int} (hs : IntsA n h v xs) (hl : xs.length < 2 ^ 63) : Ints h v xs := (hs.own hl).ints
/-- A slice that was there before the objects from m on. -/
theorem ia_off {n m : Nat} {h : Hp} {v : Value} {xs : List Int} (hs : IntsA n h v xs) (hm : h.next ≤ m) : OffF (fun o => m ≤ o) v := by
  rcases hs with ⟨_, rfl⟩ | ⟨o, ex, rfl, _, h2, _⟩
  · exact .nil _ _ _
  · exact .mk (by omega)

noncomputable def walkR (N : Int) (X ch : List Int) : List Int := if (spB N X && chB ch 20) = true then toN (walkS (fam (natsOf X)) N.toNat ch N.toNat).1 else []
theorem walkR_len (N : Int) (X ch : List Int) : (walkR N X ch).length ≤ 7 := by
  unfold walkR
  split
  · rename_i h
    simp only [Bool.and_eq_true] at h
    obtain ⟨n, xs, rfl, rfl, g⟩ := spB_true h.1
    have := g.n7
    simp [walk_len]; omega
  · simp
theorem chB_long {ch : List Int} {m : Int} (h : m < (ch.length : Int)) : chB ch m = false := by
  unfold chB
  simp only [Bool.and_eq_false_iff, decide_eq_false_iff_not]
  exact .inl (by omega)
theorem chB_neg {ch : List Int} {m : Int} {j : Nat} (hj : j < ch.length) (h : ch[j] < 0) : chB ch m = false := by
  rw [Bool.eq_false_iff]
  intro hc
  have := (chB_pos hc).2 _ (List.getElem_mem hj)
  omega
theorem chB_of {ch : List Int} {m : Int} (h1 : (ch.length : Int) ≤ m) (h2 : ∀ j (hj : j < ch.length), 0 ≤ ch[j]) : chB ch m = true := by
  unfold chB
  simp only [Bool.and_eq_true, decide_eq_true_eq, Bool.not_eq_true', List.any_eq_false]
  refine ⟨h1, fun x hx => ?_⟩
  obtain ⟨j, hj, rfl⟩ := List.getElem_of_mem hx
  have := h2 j hj
  omega

theorem implWalk_ok (h : Hp) (v w : Value) (N : Int) (X ch : List Int) (hv : Space h v N X) (hw : Ints h w ch) (hl : X.length < 2 ^ 40) (hcl : ch.length < 2 ^ 40) :
    ∃ v' h', CallOK Try.prog 37 #[v, w] h v' h' ∧ Adds h h' ∧ ∃ u, v' = .tuple #[u, .bool (spB N X && chB ch 20)] ∧ IntsO (Btw h.next h'.next) h' u (walkR N X ch) := by
  refine call_L (args := [v, w]) 42 _ [.tmp 4, .tmp 5] Try.func37 rfl rfl rfl ?_
  obtain ⟨b, rfl, hX⟩ := hv
  have hM := hw.lenD
  repeat (first
    | (refine WD_block (fun K hK => ?_))
    | (refine WD_seq (fun K hK => ?_)))
  refine WD_region (fun K hK => ?_)
  repeat (first
    | ((first | refine RunD_o rfl rfl rfl rfl rfl (fun X hX => ?_) | refine RunD_s rfl rfl rfl rfl (fun X hX => ?_) | refine RunD_g rfl rfl rfl rfl rfl rfl rfl (fun X Y hX hY => ?_) | refine RunD_gc rfl rfl rfl rfl rfl rfl (fun Y hY => ?_) | refine PreD_o rfl rfl rfl rfl rfl (fun X hX => ?_) | refine PreD_g rfl rfl rfl rfl rfl rfl rfl (fun X Y hX hY => ?_) | refine PreD_gc rfl rfl rfl rfl rfl rfl (fun Y hY => ?_) | refine WD_c rfl (fun X Y hX hY => ?_)); (try dsimp only); simp (disch := first | omega | (simp; done) | fail) [wrap64c, if_pos, if_neg, opAnd, opOr, opXor, opDiff, opShr, opBit, hM]; (first | (refine hX _ _ ?hadd ?_; (case hadd => simp; done)) | refine hX _ _ ?_ | refine hX ?_ | refine hY ?_); (try clear hX X); try clear hY Y))
  refine RunD_heap fun h0 q_h0 => ?_
  have g_h0 : h0.get h.next = .cells [.int .i64 N, b] true true 1 := by simp [q_h0]
  have k_h0 : Adds h h0 := by rw [q_h0]; exact (by repeat (first | exact keep_self _ | exact adds_self _ | assumption | exact Adds.keeps (by assumption) | refine keeps_alloc ?_ _ | refine adds_alloc ?_ _ _ _ | refine adds_allocM ?_ _ | (refine keeps_put ?_ ?hle _; (case hle => first | omega | (simp; done) | (simp; omega))) | (refine adds_put ?_ ?hle _ _ _; (case hle => first | omega | (simp; done) | (simp; omega)))))
  have n_h0 : h.next < h0.next := by simp [q_h0]; try omega
  have hX0 := hX.keep k_h0.1
  have hw0 := hw.keep k_h0.1
  have K0 := k_h0.1
  repeat (first
    | (refine WD_block (fun K hK => ?_))
    | (refine WD_seq (fun K hK => ?_))
    | (refine WD_region (fun K hK => ?_))
    | ((first | refine RunD_o rfl rfl rfl rfl rfl (fun X hX => ?_) | refine RunD_s rfl rfl rfl rfl (fun X hX => ?_) | refine RunD_g rfl rfl rfl rfl rfl rfl rfl (fun X Y hX hY => ?_) | refine RunD_gc rfl rfl rfl rfl rfl rfl (fun Y hY => ?_) | refine PreD_o rfl rfl rfl rfl rfl (fun X hX => ?_) | refine PreD_g rfl rfl rfl rfl rfl rfl rfl (fun X Y hX hY => ?_) | refine PreD_gc rfl rfl rfl rfl rfl rfl (fun Y hY => ?_) | refine WD_c rfl (fun X Y hX hY => ?_)); (try dsimp only); simp (disch := first | omega | (simp; done) | fail) [wrap64c, if_pos, if_neg, opAnd, opOr, opXor, opDiff, opShr, opBit, hM, g_h0]; (first | (refine hX _ _ ?hadd ?_; (case hadd => simp; done)) | refine hX _ _ ?_ | refine hX ?_ | refine hY ?_); (try clear hX X); try clear hY Y)
    | (refine RunD_nil ?_; refine hK _ _ ?_; clear hK K)
    | (refine RunD_nil ?_)
    | (refine PreD_nil ?_; refine hK _ _ ?_; clear hK K)
    | (refine WD_skip ?_)
    | (refine WD_exit ?_)
    | (refine WD_ret ?_)
    | (refine hK.1 _ _ ?_; clear hK K)
    | (refine hK.2.1 _ _ ?_; clear hK K)
    | (refine hK.2 _ _ _ ?hne ?_; (case hne => simp; done); clear hK K)
    | (refine hK.2.2 _ _ _ ?hne ?_; (case hne => simp; done); clear hK K))
  refine RunD_c rfl rfl rfl rfl (by simp) (by simp) ?ha (isSpace_ok h0 (.agg #[.int .i64 N, b]) N X (.mk hX0) hl) ?_
  (case ha => simp (disch := first | omega | (simp; done) | fail) [wrap64c, if_pos, if_neg, opAnd, opOr, opXor, opDiff, opShr, opBit, hM, g_h0])
  cases c1 : spB N X
  · repeat (first
      | (refine WD_block (fun K hK => ?_))
      | (refine WD_seq (fun K hK => ?_))
      | (refine WD_region (fun K hK => ?_))
      | ((first | refine RunD_o rfl rfl rfl rfl rfl (fun X hX => ?_) | refine RunD_s rfl rfl rfl rfl (fun X hX => ?_) | refine RunD_g rfl rfl rfl rfl rfl rfl rfl (fun X Y hX hY => ?_) | refine RunD_gc rfl rfl rfl rfl rfl rfl (fun Y hY => ?_) | refine PreD_o rfl rfl rfl rfl rfl (fun X hX => ?_) | refine PreD_g rfl rfl rfl rfl rfl rfl rfl (fun X Y hX hY => ?_) | refine PreD_gc rfl rfl rfl rfl rfl rfl (fun Y hY => ?_) | refine WD_c rfl (fun X Y hX hY => ?_)); (try dsimp only); simp (disch := first | omega | (simp; done) | fail) [wrap64c, if_pos, if_neg, opAnd, opOr, opXor, opDiff, opShr, opBit, hM, g_h0, c1]; (first | (refine hX _ _ ?hadd ?_; (case hadd => simp; done)) | refine hX _ _ ?_ | refine hX ?_ | refine hY ?_); (try clear hX X); try clear hY Y)
      | (refine RunD_nil ?_; refine hK _ _ ?_; clear hK K)
      | (refine RunD_nil ?_)
      | (refine PreD_nil ?_; refine hK _ _ ?_; clear hK K)
      | (refine WD_skip ?_)
      | (refine WD_exit ?_)
      | (refine WD_ret ?_)
      | (refine hK.1 _ _ ?_; clear hK K)
      | (refine hK.2.1 _ _ ?_; clear hK K)
      | (refine hK.2 _ _ _ ?hne ?_; (case hne => simp; done); clear hK K)
      | (refine hK.2.2 _ _ _ ?hne ?_; (case hne => simp; done); clear hK K))
    refine done_ret rfl ⟨k_h0, _, by simp [c1]; rfl, ?_⟩
    rw [walkR, if_neg (by simp [c1])]
    exact .nil _ _
  · repeat (first
      | (refine WD_block (fun K hK => ?_))
      | (refine WD_seq (fun K hK => ?_))
      | (refine WD_region (fun K hK => ?_))
      | ((first | refine RunD_o rfl rfl rfl rfl rfl (fun X hX => ?_) | refine RunD_s rfl rfl rfl rfl (fun X hX => ?_) | refine RunD_g rfl rfl rfl rfl rfl rfl rfl (fun X Y hX hY => ?_) | refine RunD_gc rfl rfl rfl rfl rfl rfl (fun Y hY => ?_) | refine PreD_o rfl rfl rfl rfl rfl (fun X hX => ?_) | refine PreD_g rfl rfl rfl rfl rfl rfl rfl (fun X Y hX hY => ?_) | refine PreD_gc rfl rfl rfl rfl rfl rfl (fun Y hY => ?_) | refine WD_c rfl (fun X Y hX hY => ?_)); (try dsimp only); simp (disch := first | omega | (simp; done) | fail) [wrap64c, if_pos, if_neg, opAnd, opOr, opXor, opDiff, opShr, opBit, hM, g_h0, c1]; (first | (refine hX _ _ ?hadd ?_; (case hadd => simp; done)) | refine hX _ _ ?_ | refine hX ?_ | refine hY ?_); (try clear hX X); try clear hY Y)
      | (refine RunD_nil ?_; refine hK _ _ ?_; clear hK K)
      | (refine RunD_nil ?_)
      | (refine PreD_nil ?_; refine hK _ _ ?_; clear hK K)
      | (refine WD_skip ?_)
      | (refine WD_exit ?_)
      | (refine WD_ret ?_)
      | (refine hK.1 _ _ ?_; clear hK K)
      | (refine hK.2.1 _ _ ?_; clear hK K)
      | (refine hK.2 _ _ _ ?hne ?_; (case hne => simp; done); clear hK K)
      | (refine hK.2.2 _ _ _ ?hne ?_; (case hne => simp; done); clear hK K))
    refine RunD_cT rfl rfl rfl rfl rfl rfl ?hb (by simp) (by simp) ?ha (areChoices_ok h0 w ch 20 hw0) ?_
    (case hb => simp (disch := first | omega | (simp; done) | fail) [wrap64c, if_pos, if_neg, opAnd, opOr, opXor, opDiff, opShr, opBit, hM, g_h0, c1])
    (case ha => simp (disch := first | omega | (simp; done) | fail) [wrap64c, if_pos, if_neg, opAnd, opOr, opXor, opDiff, opShr, opBit, hM, g_h0, c1])
    cases c2 : chB ch 20
    · repeat (first
        | (refine WD_block (fun K hK => ?_))
        | (refine WD_seq (fun K hK => ?_))
        | (refine WD_region (fun K hK => ?_))
        | ((first | refine RunD_o rfl rfl rfl rfl rfl (fun X hX => ?_) | refine RunD_s rfl rfl rfl rfl (fun X hX => ?_) | refine RunD_g rfl rfl rfl rfl rfl rfl rfl (fun X Y hX hY => ?_) | refine RunD_gc rfl rfl rfl rfl rfl rfl (fun Y hY => ?_) | refine PreD_o rfl rfl rfl rfl rfl (fun X hX => ?_) | refine PreD_g rfl rfl rfl rfl rfl rfl rfl (fun X Y hX hY => ?_) | refine PreD_gc rfl rfl rfl rfl rfl rfl (fun Y hY => ?_) | refine WD_c rfl (fun X Y hX hY => ?_)); (try dsimp only); simp (disch := first | omega | (simp; done) | fail) [wrap64c, if_pos, if_neg, opAnd, opOr, opXor, opDiff, opShr, opBit, hM, g_h0, c1, c2]; (first | (refine hX _ _ ?hadd ?_; (case hadd => simp; done)) | refine hX _ _ ?_ | refine hX ?_ | refine hY ?_); (try clear hX X); try clear hY Y)
        | (refine RunD_nil ?_; refine hK _ _ ?_; clear hK K)
        | (refine RunD_nil ?_)
        | (refine PreD_nil ?_; refine hK _ _ ?_; clear hK K)
        | (refine WD_skip ?_)
        | (refine WD_exit ?_)
        | (refine WD_ret ?_)
        | (refine hK.1 _ _ ?_; clear hK K)
        | (refine hK.2.1 _ _ ?_; clear hK K)
        | (refine hK.2 _ _ _ ?hne ?_; (case hne => simp; done); clear hK K)
        | (refine hK.2.2 _ _ _ ?hne ?_; (case hne => simp; done); clear hK K))
      refine done_ret rfl ⟨k_h0, _, by simp [c1, c2]; rfl, ?_⟩
      rw [walkR, if_neg (by simp [c1, c2])]
      exact .nil _ _
    · obtain ⟨n, xs, hN, hXe, g⟩ := spB_true c1
      have hNt : N = (n : Int) := hN
      have hX1 : Ints h0 b (toN xs) := hXe ▸ hX0
      have n7 := g.n7
      have hb7 := bit7 n7
      have hcp := (chB_pos c2).2
      repeat (first
        | (refine WD_block (fun K hK => ?_))
        | (refine WD_seq (fun K hK => ?_))
        | (refine WD_region (fun K hK => ?_))
        | ((first | refine RunD_o rfl rfl rfl rfl rfl (fun X hX => ?_) | refine RunD_s rfl rfl rfl rfl (fun X hX => ?_) | refine RunD_g rfl rfl rfl rfl rfl rfl rfl (fun X Y hX hY => ?_) | refine RunD_gc rfl rfl rfl rfl rfl rfl (fun Y hY => ?_) | refine PreD_o rfl rfl rfl rfl rfl (fun X hX => ?_) | refine PreD_g rfl rfl rfl rfl rfl rfl rfl (fun X Y hX hY => ?_) | refine PreD_gc rfl rfl rfl rfl rfl rfl (fun Y hY => ?_) | refine WD_c rfl (fun X Y hX hY => ?_)); (try dsimp only); simp (disch := first | omega | (simp; done) | fail) [wrap64c, if_pos, if_neg, opAnd, opOr, opXor, opDiff, opShr, opBit, hM, g_h0, c1, c2, hNt]; (first | (refine hX _ _ ?hadd ?_; (case hadd => simp; done)) | refine hX _ _ ?_ | refine hX ?_ | refine hY ?_); (try clear hX X); try clear hY Y)
        | (refine RunD_nil ?_; refine hK _ _ ?_; clear hK K)
        | (refine RunD_nil ?_)
        | (refine PreD_nil ?_; refine hK _ _ ?_; clear hK K)
        | (refine WD_skip ?_)
        | (refine WD_exit ?_)
        | (refine WD_ret ?_)
        | (refine hK.1 _ _ ?_; clear hK K)
        | (refine hK.2.1 _ _ ?_; clear hK K)
        | (refine hK.2 _ _ _ ?hne ?_; (case hne => simp; done); clear hK K)
        | (refine hK.2.2 _ _ _ ?hne ?_; (case hne => simp; done); clear hK K))
      obtain ⟨_, h1, hc1, o1, rfl, ha1, ho1, ho2, hg1⟩ := family_ok h0 (.agg #[.int .i64 (n : Int), b]) n xs (.mk hX1) g.lt7 (by have := g.len7; omega)
      refine RunD_c rfl rfl rfl rfl (by simp) (by simp) ?ha (hc1) ?_
      (case ha => simp (disch := first | omega | (simp; done) | fail) [wrap64c, if_pos, if_neg, opAnd, opOr, opXor, opDiff, opShr, opBit, hM, g_h0, c1, c2, hNt])
      have g1 : h1.get h.next = .cells [.int .i64 N, b] true true 1 := by rw [ha1.1.2 _ (by omega)]; exact g_h0
      have A1 := k_h0.trans ha1
      have hX2 := hX1.keep ha1.1
      have hw1 := hw0.keep ha1.1
      have hn1 := ha1.1.1
      repeat (first
        | (refine WD_block (fun K hK => ?_))
        | (refine WD_seq (fun K hK => ?_))
        | (refine WD_region (fun K hK => ?_))
        | ((first | refine RunD_o rfl rfl rfl rfl rfl (fun X hX => ?_) | refine RunD_s rfl rfl rfl rfl (fun X hX => ?_) | refine RunD_g rfl rfl rfl rfl rfl rfl rfl (fun X Y hX hY => ?_) | refine RunD_gc rfl rfl rfl rfl rfl rfl (fun Y hY => ?_) | refine PreD_o rfl rfl rfl rfl rfl (fun X hX => ?_) | refine PreD_g rfl rfl rfl rfl rfl rfl rfl (fun X Y hX hY => ?_) | refine PreD_gc rfl rfl rfl rfl rfl rfl (fun Y hY => ?_) | refine WD_c rfl (fun X Y hX hY => ?_)); (try dsimp only); simp (disch := first | omega | (simp; done) | fail) [wrap64c, if_pos, if_neg, opAnd, opOr, opXor, opDiff, opShr, opBit, hM, g_h0, c1, c2, hNt, g1]; (first | (refine hX _ _ ?hadd ?_; (case hadd => simp; done)) | refine hX _ _ ?_ | refine hX ?_ | refine hY ?_); (try clear hX X); try clear hY Y)
        | (refine RunD_nil ?_; refine hK _ _ ?_; clear hK K)
        | (refine RunD_nil ?_)
        | (refine PreD_nil ?_; refine hK _ _ ?_; clear hK K)
        | (refine WD_skip ?_)
        | (refine WD_exit ?_)
        | (refine WD_ret ?_)
        | (refine hK.1 _ _ ?_; clear hK K)
        | (refine hK.2.1 _ _ ?_; clear hK K)
        | (refine hK.2 _ _ _ ?hne ?_; (case hne => simp; done); clear hK K)
        | (refine hK.2.2 _ _ _ ?hne ?_; (case hne => simp; done); clear hK K))
      refine WD_loopF [1, 2, 6] (fun m tm h' => ∃ k u, m = n - k ∧ tm 7 = u ∧ tm 8 = .int .i64 (((walkS (fam xs) n ch k).2 : Nat) : Int) ∧ (k ≤ n) ∧ (Adds h1 h') ∧ (IntsA h1.next h' u (toN (walkS (fam xs) n ch k).1))) _ ⟨0, _, rfl, (by simp (disch := first | omega | (simp; done) | fail) [wrap64c, if_pos, if_neg, opAnd, opOr, opXor, opDiff, opShr, opBit, hM, g_h0, c1, c2, hNt, g1]), (by simp [walkS]), (by first | omega | assumption | (simp (disch := first | omega | (simp; done) | fail) [wrap64c, if_pos, if_neg, opAnd, opOr, opXor, opDiff, opShr, opBit, hM, g_h0, c1, c2, hNt, g1] <;> omega)), (by repeat (first | exact keep_self _ | exact adds_self _ | assumption | exact Adds.keeps (by assumption) | refine keeps_alloc ?_ _ | refine adds_alloc ?_ _ _ _ | refine adds_allocM ?_ _ | (refine keeps_put ?_ ?hle _; (case hle => first | omega | (simp; done) | (simp; omega))) | (refine adds_put ?_ ?hle _ _ _; (case hle => first | omega | (simp; done) | (simp; omega))))), (.lit (ex := true) (Nat.le_refl _) (by simp) (by simp [walkS, toN]))⟩ ?_
      rintro m tm h' hFr ⟨k, u, rfl, e7, e8, hk, ha, hu⟩ K hK
      simp only [FrameL] at hFr
      obtain ⟨f1_0, f2_0, f6_0, -⟩ := hFr
      try simp (disch := first | omega | (simp; done) | fail) [wrap64c, if_pos, if_neg, opAnd, opOr, opXor, opDiff, opShr, opBit, hM, g_h0, c1, c2, hNt, g1] at f1_0 f2_0 f6_0
      have e1 := f1_0
      have e2 := f2_0
      have e6 := f6_0
      have hlu := walk_len (fam xs) n ch k
      obtain ⟨hi1, hi2⟩ := walk_inv g ch k hk
      have hs128 := g.lt7 _ hi1
      have g1' : h'.get h.next = .cells [.int .i64 N, b] true true 1 := by rw [ha.1.2 _ (by omega)]; exact g1
      have hgf : h'.get o1 = .cells (famC (fam xs)) true true 1 := by rw [ha.1.2 _ (by omega)]; exact hg1
      have hn2 := ha.1.1
      have hlU := hu.lenD
      have hlu2 : (toN (walkS (fam xs) n ch k).1).length = k := by rw [toN_length, hlu]
      repeat (first
        | (refine WD_block (fun K hK => ?_))
        | (refine WD_seq (fun K hK => ?_))
        | (refine WD_region (fun K hK => ?_))
        | ((first | refine RunD_o rfl rfl rfl rfl rfl (fun X hX => ?_) | refine RunD_s rfl rfl rfl rfl (fun X hX => ?_) | refine RunD_g rfl rfl rfl rfl rfl rfl rfl (fun X Y hX hY => ?_) | refine RunD_gc rfl rfl rfl rfl rfl rfl (fun Y hY => ?_) | refine PreD_o rfl rfl rfl rfl rfl (fun X hX => ?_) | refine PreD_g rfl rfl rfl rfl rfl rfl rfl (fun X Y hX hY => ?_) | refine PreD_gc rfl rfl rfl rfl rfl rfl (fun Y hY => ?_) | refine WD_c rfl (fun X Y hX hY => ?_)); (try dsimp only); simp (disch := first | omega | (simp; done) | fail) [wrap64c, if_pos, if_neg, opAnd, opOr, opXor, opDiff, opShr, opBit, hM, g_h0, c1, c2, hNt, g1, e1, e2, e6, e7, e8, g1', hlU, hlu2]; (first | (refine hX _ _ ?hadd ?_; (case hadd => simp; done)) | refine hX _ _ ?_ | refine hX ?_ | refine hY ?_); (try clear hX X); try clear hY Y)
        | (refine RunD_nil ?_; refine hK _ _ ?_; clear hK K)
        | (refine RunD_nil ?_)
        | (refine PreD_nil ?_; refine hK _ _ ?_; clear hK K)
        | (refine WD_skip ?_)
        | (refine WD_exit ?_)
        | (refine WD_ret ?_)
        | (refine hK.1 _ _ ?_; clear hK K)
        | (refine hK.2.1 _ _ ?_; clear hK K)
        | (refine hK.2 _ _ _ ?hne ?_; (case hne => simp; done); clear hK K)
        | (refine hK.2.2 _ _ _ ?hne ?_; (case hne => simp; done); clear hK K))
      refine RunD_c rfl rfl rfl rfl (by simp) (by simp) ?ha (all_ok h' (.agg #[.int .i64 (n : Int), b]) n _ (.mk (hX2.keep ha.1)) (by omega)) ?_
      (case ha => simp (disch := first | omega | (simp; done) | fail) [wrap64c, if_pos, if_neg, opAnd, opOr, opXor, opDiff, opShr, opBit, hM, g_h0, c1, c2, hNt, g1, e1, e2, e6, e7, e8, g1', hlU, hlu2])
      by_cases hlt : k < n
      · have hne : ¬ ((walkS (fam xs) n ch k).2 = bit n - 1) := fun e => by have := (walk_end g ch hk).1 e; omega
        have hneb : ((((walkS (fam xs) n ch k).2 : Nat) : Int) != ((bit n - 1 : Nat) : Int)) = true := by simp [hne]
        obtain ⟨s, hs⟩ : ∃ s, s = (walkS (fam xs) n ch k).2 := ⟨_, rfl⟩
        have hout := outerN_lt (fam xs) n s
        have hwn := walk_ne g ch hlt
        have hmem := pickN_mem (ch := ch) (k := k) hwn
        obtain ⟨l1, l2, l3⟩ := g.learn hmem
        rw [← hs] at hwn hmem l1 l2 l3 hs128
        have hp64 := bit_lt7 (i := pickN ch k (itemsN (outerN (fam xs) n s))) (by omega)
        have hor := g.lt7 _ l3
        have hs2 := hs.symm
        repeat (first
          | (refine WD_block (fun K hK => ?_))
          | (refine WD_seq (fun K hK => ?_))
          | (refine WD_region (fun K hK => ?_))
          | ((first | refine RunD_o rfl rfl rfl rfl rfl (fun X hX => ?_) | refine RunD_s rfl rfl rfl rfl (fun X hX => ?_) | refine RunD_g rfl rfl rfl rfl rfl rfl rfl (fun X Y hX hY => ?_) | refine RunD_gc rfl rfl rfl rfl rfl rfl (fun Y hY => ?_) | refine PreD_o rfl rfl rfl rfl rfl (fun X hX => ?_) | refine PreD_g rfl rfl rfl rfl rfl rfl rfl (fun X Y hX hY => ?_) | refine PreD_gc rfl rfl rfl rfl rfl rfl (fun Y hY => ?_) | refine WD_c rfl (fun X Y hX hY => ?_)); (try dsimp only); simp (disch := first | omega | (simp; done) | fail) [wrap64c, if_pos, if_neg, opAnd, opOr, opXor, opDiff, opShr, opBit, hM, g_h0, c1, c2, hNt, g1, e1, e2, e6, e7, e8, g1', hlU, hlu2, hneb, hs2]; (first | (refine hX _ _ ?hadd ?_; (case hadd => simp; done)) | refine hX _ _ ?_ | refine hX ?_ | refine hY ?_); (try clear hX X); try clear hY Y)
          | (refine RunD_nil ?_; refine hK _ _ ?_; clear hK K)
          | (refine RunD_nil ?_)
          | (refine PreD_nil ?_; refine hK _ _ ?_; clear hK K)
          | (refine WD_skip ?_)
          | (refine WD_exit ?_)
          | (refine WD_ret ?_)
          | (refine hK.1 _ _ ?_; clear hK K)
          | (refine hK.2.1 _ _ ?_; clear hK K)
          | (refine hK.2 _ _ _ ?hne ?_; (case hne => simp; done); clear hK K)
          | (refine hK.2.2 _ _ _ ?hne ?_; (case hne => simp; done); clear hK K))
        refine RunD_c rfl rfl rfl rfl (by simp) (by simp) ?ha (imOuter_ok h' o1 (fam xs) true true 1 s (by omega) hgf (by omega)) ?_
        (case ha => simp (disch := first | omega | (simp; done) | fail) [wrap64c, if_pos, if_neg, opAnd, opOr, opXor, opDiff, opShr, opBit, hM, g_h0, c1, c2, hNt, g1, e1, e2, e6, e7, e8, g1', hlU, hlu2, hneb, hs2])
        have h7 := g.outer7 s
        repeat (first
          | (refine WD_block (fun K hK => ?_))
          | (refine WD_seq (fun K hK => ?_))
          | (refine WD_region (fun K hK => ?_))
          | ((first | refine RunD_o rfl rfl rfl rfl rfl (fun X hX => ?_) | refine RunD_s rfl rfl rfl rfl (fun X hX => ?_) | refine RunD_g rfl rfl rfl rfl rfl rfl rfl (fun X Y hX hY => ?_) | refine RunD_gc rfl rfl rfl rfl rfl rfl (fun Y hY => ?_) | refine PreD_o rfl rfl rfl rfl rfl (fun X hX => ?_) | refine PreD_g rfl rfl rfl rfl rfl rfl rfl (fun X Y hX hY => ?_) | refine PreD_gc rfl rfl rfl rfl rfl rfl (fun Y hY => ?_) | refine WD_c rfl (fun X Y hX hY => ?_)); (try dsimp only); simp (disch := first | omega | (simp; done) | fail) [wrap64c, if_pos, if_neg, opAnd, opOr, opXor, opDiff, opShr, opBit, hM, g_h0, c1, c2, hNt, g1, e1, e2, e6, e7, e8, g1', hlU, hlu2, hneb, hs2, h7]; (first | (refine hX _ _ ?hadd ?_; (case hadd => simp; done)) | refine hX _ _ ?_ | refine hX ?_ | refine hY ?_); (try clear hX X); try clear hY Y)
          | (refine RunD_nil ?_; refine hK _ _ ?_; clear hK K)
          | (refine RunD_nil ?_)
          | (refine PreD_nil ?_; refine hK _ _ ?_; clear hK K)
          | (refine WD_skip ?_)
          | (refine WD_exit ?_)
          | (refine WD_ret ?_)
          | (refine hK.1 _ _ ?_; clear hK K)
          | (refine hK.2.1 _ _ ?_; clear hK K)
          | (refine hK.2 _ _ _ ?hne ?_; (case hne => simp; done); clear hK K)
          | (refine hK.2.2 _ _ _ ?hne ?_; (case hne => simp; done); clear hK K))
        obtain ⟨y, h2, hc2, ha2, hi2', _⟩ := items_ok h' (outerN (fam xs) n s) (by omega)
        refine RunD_c rfl rfl rfl rfl (by simp) (by simp) ?ha (hc2) ?_
        (case ha => simp (disch := first | omega | (simp; done) | fail) [wrap64c, if_pos, if_neg, opAnd, opOr, opXor, opDiff, opShr, opBit, hM, g_h0, c1, c2, hNt, g1, e1, e2, e6, e7, e8, g1', hlU, hlu2, hneb, hs2, h7])
        have hu2 := hu.keep ha2.1
        have hn3 := ha2.1.1
        repeat (first
          | (refine WD_block (fun K hK => ?_))
          | (refine WD_seq (fun K hK => ?_))
          | (refine WD_region (fun K hK => ?_))
          | ((first | refine RunD_o rfl rfl rfl rfl rfl (fun X hX => ?_) | refine RunD_s rfl rfl rfl rfl (fun X hX => ?_) | refine RunD_g rfl rfl rfl rfl rfl rfl rfl (fun X Y hX hY => ?_) | refine RunD_gc rfl rfl rfl rfl rfl rfl (fun Y hY => ?_) | refine PreD_o rfl rfl rfl rfl rfl (fun X hX => ?_) | refine PreD_g rfl rfl rfl rfl rfl rfl rfl (fun X Y hX hY => ?_) | refine PreD_gc rfl rfl rfl rfl rfl rfl (fun Y hY => ?_) | refine WD_c rfl (fun X Y hX hY => ?_)); (try dsimp only); simp (disch := first | omega | (simp; done) | fail) [wrap64c, if_pos, if_neg, opAnd, opOr, opXor, opDiff, opShr, opBit, hM, g_h0, c1, c2, hNt, g1, e1, e2, e6, e7, e8, g1', hlU, hlu2, hneb, hs2, h7]; (first | (refine hX _ _ ?hadd ?_; (case hadd => simp; done)) | refine hX _ _ ?_ | refine hX ?_ | refine hY ?_); (try clear hX X); try clear hY Y)
          | (refine RunD_nil ?_; refine hK _ _ ?_; clear hK K)
          | (refine RunD_nil ?_)
          | (refine PreD_nil ?_; refine hK _ _ ?_; clear hK K)
          | (refine WD_skip ?_)
          | (refine WD_exit ?_)
          | (refine WD_ret ?_)
          | (refine hK.1 _ _ ?_; clear hK K)
          | (refine hK.2.1 _ _ ?_; clear hK K)
          | (refine hK.2 _ _ _ ?hne ?_; (case hne => simp; done); clear hK K)
          | (refine hK.2.2 _ _ _ ?hne ?_; (case hne => simp; done); clear hK K))
        refine RunD_c rfl rfl rfl rfl (by simp) (by simp) ?ha (chosen_ok h2 y w (itemsN (outerN (fam xs) n s)) ch k hi2'.ints ((hw1.keep ha.1).keep ha2.1) hwn (by have := items_len (outerN (fam xs) n s); omega) hcp) ?_
        (case ha => simp (disch := first | omega | (simp; done) | fail) [wrap64c, if_pos, if_neg, opAnd, opOr, opXor, opDiff, opShr, opBit, hM, g_h0, c1, c2, hNt, g1, e1, e2, e6, e7, e8, g1', hlU, hlu2, hneb, hs2, h7])
        repeat (first
          | (refine WD_block (fun K hK => ?_))
          | (refine WD_seq (fun K hK => ?_))
          | (refine WD_region (fun K hK => ?_))
          | ((first | refine RunD_o rfl rfl rfl rfl rfl (fun X hX => ?_) | refine RunD_s rfl rfl rfl rfl (fun X hX => ?_) | refine RunD_g rfl rfl rfl rfl rfl rfl rfl (fun X Y hX hY => ?_) | refine RunD_gc rfl rfl rfl rfl rfl rfl (fun Y hY => ?_) | refine PreD_o rfl rfl rfl rfl rfl (fun X hX => ?_) | refine PreD_g rfl rfl rfl rfl rfl rfl rfl (fun X Y hX hY => ?_) | refine PreD_gc rfl rfl rfl rfl rfl rfl (fun Y hY => ?_) | refine WD_c rfl (fun X Y hX hY => ?_)); (try dsimp only); simp (disch := first | omega | (simp; done) | fail) [wrap64c, if_pos, if_neg, opAnd, opOr, opXor, opDiff, opShr, opBit, hM, g_h0, c1, c2, hNt, g1, e1, e2, e6, e7, e8, g1', hlU, hlu2, hneb, hs2, h7]; (first | (refine hX _ _ ?hadd ?_; (case hadd => simp; done)) | refine hX _ _ ?_ | refine hX ?_ | refine hY ?_); (try clear hX X); try clear hY Y)
          | (refine RunD_nil ?_; refine hK _ _ ?_; clear hK K)
          | (refine RunD_nil ?_)
          | (refine PreD_nil ?_; refine hK _ _ ?_; clear hK K)
          | (refine WD_skip ?_)
          | (refine WD_exit ?_)
          | (refine WD_ret ?_)
          | (refine hK.1 _ _ ?_; clear hK K)
          | (refine hK.2.1 _ _ ?_; clear hK K)
          | (refine hK.2 _ _ _ ?hne ?_; (case hne => simp; done); clear hK K)
          | (refine hK.2.2 _ _ _ ?hne ?_; (case hne => simp; done); clear hK K))
        refine WD_chain rfl (by kernel_rfl) (by kernel_rfl) (fun K hK => ?_)
        repeat (first
          | (refine WD_block (fun K hK => ?_))
          | (refine WD_seq (fun K hK => ?_))
          | (refine WD_region (fun K hK => ?_))
          | ((first | refine RunD_o rfl rfl rfl rfl rfl (fun X hX => ?_) | refine RunD_s rfl rfl rfl rfl (fun X hX => ?_) | refine RunD_g rfl rfl rfl rfl rfl rfl rfl (fun X Y hX hY => ?_) | refine RunD_gc rfl rfl rfl rfl rfl rfl (fun Y hY => ?_) | refine PreD_o rfl rfl rfl rfl rfl (fun X hX => ?_) | refine PreD_g rfl rfl rfl rfl rfl rfl rfl (fun X Y hX hY => ?_) | refine PreD_gc rfl rfl rfl rfl rfl rfl (fun Y hY => ?_) | refine WD_c rfl (fun X Y hX hY => ?_)); (try dsimp only); simp (disch := first | omega | (simp; done) | fail) [wrap64c, if_pos, if_neg, opAnd, opOr, opXor, opDiff, opShr, opBit, hM, g_h0, c1, c2, hNt, g1, e1, e2, e6, e7, e8, g1', hlU, hlu2, hneb, hs2, h7]; (first | (refine hX _ _ ?hadd ?_; (case hadd => simp; done)) | refine hX _ _ ?_ | refine hX ?_ | refine hY ?_); (try clear hX X); try clear hY Y)
          | (refine RunD_nil ?_; refine hK _ _ ?_; clear hK K)
          | (refine RunD_nil ?_)
          | (refine PreD_nil ?_; refine hK _ _ ?_; clear hK K)
          | (refine WD_skip ?_)
          | (refine WD_exit ?_)
          | (refine WD_ret ?_)
          | (refine hK.1 _ _ ?_; clear hK K)
          | (refine hK.2.1 _ _ ?_; clear hK K)
          | (refine hK.2 _ _ _ ?hne ?_; (case hne => simp; done); clear hK K)
          | (refine hK.2.2 _ _ _ ?hne ?_; (case hne => simp; done); clear hK K))
        obtain ⟨u3, h3, hap, hu3, ha3, hn4, hs3⟩ := appI2 hu2 ((pickN ch k (itemsN (outerN (fam xs) n s)) : Nat) : Int) (by rw [hlu2]; omega) (by omega) (ha.trans ha2) (Nat.le_refl _)
        repeat (first
          | (refine WD_block (fun K hK => ?_))
          | (refine WD_seq (fun K hK => ?_))
          | (refine WD_region (fun K hK => ?_))
          | ((first | refine RunD_o rfl rfl rfl rfl rfl (fun X hX => ?_) | refine RunD_s rfl rfl rfl rfl (fun X hX => ?_) | refine RunD_g rfl rfl rfl rfl rfl rfl rfl (fun X Y hX hY => ?_) | refine RunD_gc rfl rfl rfl rfl rfl rfl (fun Y hY => ?_) | refine PreD_o rfl rfl rfl rfl rfl (fun X hX => ?_) | refine PreD_g rfl rfl rfl rfl rfl rfl rfl (fun X Y hX hY => ?_) | refine PreD_gc rfl rfl rfl rfl rfl rfl (fun Y hY => ?_) | refine WD_c rfl (fun X Y hX hY => ?_)); (try dsimp only); simp (disch := first | omega | (simp; done) | fail) [wrap64c, if_pos, if_neg, opAnd, opOr, opXor, opDiff, opShr, opBit, hM, g_h0, c1, c2, hNt, g1, e1, e2, e6, e7, e8, g1', hlU, hlu2, hneb, hs2, h7, hap]; (first | (refine hX _ _ ?hadd ?_; (case hadd => simp; done)) | refine hX _ _ ?_ | refine hX ?_ | refine hY ?_); (try clear hX X); try clear hY Y)
          | (refine RunD_nil ?_; refine hK _ _ ?_; clear hK K)
          | (refine RunD_nil ?_)
          | (refine PreD_nil ?_; refine hK _ _ ?_; clear hK K)
          | (refine WD_skip ?_)
          | (refine WD_exit ?_)
          | (refine WD_ret ?_)
          | (refine hK.1 _ _ ?_; clear hK K)
          | (refine hK.2.1 _ _ ?_; clear hK K)
          | (refine hK.2 _ _ _ ?hne ?_; (case hne => simp; done); clear hK K)
          | (refine hK.2.2 _ _ _ ?hne ?_; (case hne => simp; done); clear hK K))
        refine hK.1 _ _ _ ?hm ?hf ⟨k + 1, u3, rfl, (by simp (disch := first | omega | (simp; done) | fail) [wrap64c, if_pos, if_neg, opAnd, opOr, opXor, opDiff, opShr, opBit, hM, g_h0, c1, c2, hNt, g1, e1, e2, e6, e7, e8, g1', hlU, hlu2, hneb, hs2, h7] <;> omega), (by simp [walkS, ← hs]), (by first | omega | assumption | (simp (disch := first | omega | (simp; done) | fail) [wrap64c, if_pos, if_neg, opAnd, opOr, opXor, opDiff, opShr, opBit, hM, g_h0, c1, c2, hNt, g1, e1, e2, e6, e7, e8, g1', hlU, hlu2, hneb, hs2, h7] <;> omega)), ha3, (by simp only [walkS, ← hs]; rw [toN_snoc]; exact hu3)⟩
        (case hm => first | omega | (simp; omega))
        (case hf => simp [FrameL, hM, g_h0, c1, c2, hNt, g1, e1, e2, e6, e7, e8, g1', hlU, hlu2, hneb, hs2, h7, f1_0, f2_0, f6_0])
      · have hke : k = n := by omega
        have hee := (walk_end g ch hk).2 hke
        have hneb : ((((walkS (fam xs) n ch k).2 : Nat) : Int) != ((bit n - 1 : Nat) : Int)) = false := by simp [hee]
        repeat (first
          | (refine WD_block (fun K hK => ?_))
          | (refine WD_seq (fun K hK => ?_))
          | (refine WD_region (fun K hK => ?_))
          | ((first | refine RunD_o rfl rfl rfl rfl rfl (fun X hX => ?_) | refine RunD_s rfl rfl rfl rfl (fun X hX => ?_) | refine RunD_g rfl rfl rfl rfl rfl rfl rfl (fun X Y hX hY => ?_) | refine RunD_gc rfl rfl rfl rfl rfl rfl (fun Y hY => ?_) | refine PreD_o rfl rfl rfl rfl rfl (fun X hX => ?_) | refine PreD_g rfl rfl rfl rfl rfl rfl rfl (fun X Y hX hY => ?_) | refine PreD_gc rfl rfl rfl rfl rfl rfl (fun Y hY => ?_) | refine WD_c rfl (fun X Y hX hY => ?_)); (try dsimp only); simp (disch := first | omega | (simp; done) | fail) [wrap64c, if_pos, if_neg, opAnd, opOr, opXor, opDiff, opShr, opBit, hM, g_h0, c1, c2, hNt, g1, e1, e2, e6, e7, e8, g1', hlU, hlu2, hneb]; (first | (refine hX _ _ ?hadd ?_; (case hadd => simp; done)) | refine hX _ _ ?_ | refine hX ?_ | refine hY ?_); (try clear hX X); try clear hY Y)
          | (refine RunD_nil ?_; refine hK _ _ ?_; clear hK K)
          | (refine RunD_nil ?_)
          | (refine PreD_nil ?_; refine hK _ _ ?_; clear hK K)
          | (refine WD_skip ?_)
          | (refine WD_exit ?_)
          | (refine WD_ret ?_)
          | (refine hK.1 _ _ ?_; clear hK K)
          | (refine hK.2.1 _ _ ?_; clear hK K)
          | (refine hK.2 _ _ _ ?hne ?_; (case hne => simp; done); clear hK K)
          | (refine hK.2.2 _ _ _ ?hne ?_; (case hne => simp; done); clear hK K))
        refine done_ret rfl ⟨A1.trans ha, _, by simp [c1, c2]; rfl, ?_⟩
        rw [walkR, if_pos (by simp [c1, c2]), hXe, natsOf_toN, hN, Int.toNat_natCast]
        rw [hke] at hu
        exact (hu.own (by simp [walk_len]; omega)).sub fun o ho => ⟨by have := ho.1; omega, ho.2⟩
theorem itemsK_eq {o n : Nat} (ho : o < bit n) (hn : n ≤ 7) : itemsK o n = itemsN o := by
  have : ∀ d, n + d ≤ 7 → itemsK o (n + d) = itemsK o n := by
    intro d
    induction d with
    | zero => intro _; rfl
    | succ d ih =>
      intro hd
      rw [show n + (d + 1) = n + d + 1 by omega, itemsK_succ, hi_bit ho (by omega)]
      exact ih (by omega)
  rw [items_eq]
  have h1 := this (7 - n) (by omega)
  rw [show n + (7 - n) = 7 by omega] at h1
  exact h1.symm

theorem specWalk_ok (h : Hp) (v w : Value) (N : Int) (X ch : List Int) (hv : Space h v N X) (hw : Ints h w ch) (hl : X.length < 2 ^ 40) (hcl : ch.length < 2 ^ 40) :
    ∃ v' h', CallOK Try.prog 35 #[v, w] h v' h' ∧ Adds h h' ∧ ∃ u, v' = .tuple #[u, .bool (spB N X && chB ch 20)] ∧ IntsO (Btw h.next h'.next) h' u (walkR N X ch) := by
  refine call_L (args := [v, w]) 80 _ [.tmp 4, .tmp 5] Try.func35 rfl rfl rfl ?_
  obtain ⟨b, rfl, hX⟩ := hv
  have hM := hw.lenD
  repeat (first
    | (refine WD_block (fun K hK => ?_))
    | (refine WD_seq (fun K hK => ?_)))
  refine WD_region (fun K hK => ?_)
  repeat (first
    | ((first | refine RunD_o rfl rfl rfl rfl rfl (fun X hX => ?_) | refine RunD_s rfl rfl rfl rfl (fun X hX => ?_) | refine RunD_g rfl rfl rfl rfl rfl rfl rfl (fun X Y hX hY => ?_) | refine RunD_gc rfl rfl rfl rfl rfl rfl (fun Y hY => ?_) | refine WD_c rfl (fun X Y hX hY => ?_)); (try dsimp only); simp (disch := first | omega | (simp; done) | fail) [wrap64c, if_pos, if_neg, opAnd, opOr, opXor, opDiff, opShr, opBit, hM]; (first | refine hX _ _ ?_ | refine hX ?_ | refine hY ?_); (try clear hX X); try clear hY Y))
  refine RunD_heap fun h0 q_h0 => ?_
  have g_h0 : h0.get h.next = .cells [.int .i64 N, b] true true 1 := by simp [q_h0]
  have k_h0 : Adds h h0 := by rw [q_h0]; exact (by repeat (first | exact keep_self _ | exact adds_self _ | assumption | exact Adds.keeps (by assumption) | refine keeps_alloc ?_ _ | refine adds_alloc ?_ _ _ _ | refine adds_allocM ?_ _ | (refine keeps_put ?_ ?hle _; (case hle => first | omega | (simp; done) | (simp; omega))) | (refine adds_put ?_ ?hle _ _ _; (case hle => first | omega | (simp; done) | (simp; omega)))))
  have n_h0 : h.next < h0.next := by simp [q_h0]; try omega
  have hX0 := hX.keep k_h0.1
  have hw0 := hw.keep k_h0.1
  have K0 := k_h0.1
  repeat (first
    | (refine WD_block (fun K hK => ?_))
    | (refine WD_seq (fun K hK => ?_))
    | (refine WD_region (fun K hK => ?_))
    | ((first | refine RunD_o rfl rfl rfl rfl rfl (fun X hX => ?_) | refine RunD_s rfl rfl rfl rfl (fun X hX => ?_) | refine RunD_g rfl rfl rfl rfl rfl rfl rfl (fun X Y hX hY => ?_) | refine RunD_gc rfl rfl rfl rfl rfl rfl (fun Y hY => ?_) | refine WD_c rfl (fun X Y hX hY => ?_)); (try dsimp only); simp (disch := first | omega | (simp; done) | fail) [wrap64c, if_pos, if_neg, opAnd, opOr, opXor, opDiff, opShr, opBit, hM, g_h0]; (first | refine hX _ _ ?_ | refine hX ?_ | refine hY ?_); (try clear hX X); try clear hY Y)
    | (refine RunD_nil ?_; refine hK _ _ ?_; clear hK K)
    | (refine RunD_nil ?_)
    | (refine WD_skip ?_)
    | (refine WD_exit ?_)
    | (refine WD_ret ?_)
    | (refine hK.1 _ _ ?_; clear hK K)
    | (refine hK.2.1 _ _ ?_; clear hK K)
    | (refine hK.2 _ _ _ ?hne ?_; (case hne => simp; done); clear hK K)
    | (refine hK.2.2 _ _ _ ?hne ?_; (case hne => simp; done); clear hK K))
  refine RunD_c rfl rfl rfl rfl (by simp) (by simp) ?ha (spGood_ok h0 (.agg #[.int .i64 N, b]) N X (.mk hX0) hl) ?_
  (case ha => simp (disch := first | omega | (simp; done) | fail) [wrap64c, if_pos, if_neg, opAnd, opOr, opXor, opDiff, opShr, opBit, hM, g_h0])
  cases c1 : spB N X
  · repeat (first
      | (refine WD_block (fun K hK => ?_))
      | (refine WD_seq (fun K hK => ?_))
      | (refine WD_region (fun K hK => ?_))
      | ((first | refine RunD_o rfl rfl rfl rfl rfl (fun X hX => ?_) | refine RunD_s rfl rfl rfl rfl (fun X hX => ?_) | refine RunD_g rfl rfl rfl rfl rfl rfl rfl (fun X Y hX hY => ?_) | refine RunD_gc rfl rfl rfl rfl rfl rfl (fun Y hY => ?_) | refine WD_c rfl (fun X Y hX hY => ?_)); (try dsimp only); simp (disch := first | omega | (simp; done) | fail) [wrap64c, if_pos, if_neg, opAnd, opOr, opXor, opDiff, opShr, opBit, hM, g_h0, c1]; (first | refine hX _ _ ?_ | refine hX ?_ | refine hY ?_); (try clear hX X); try clear hY Y)
      | (refine RunD_nil ?_; refine hK _ _ ?_; clear hK K)
      | (refine RunD_nil ?_)
      | (refine WD_skip ?_)
      | (refine WD_exit ?_)
      | (refine WD_ret ?_)
      | (refine hK.1 _ _ ?_; clear hK K)
      | (refine hK.2.1 _ _ ?_; clear hK K)
      | (refine hK.2 _ _ _ ?hne ?_; (case hne => simp; done); clear hK K)
      | (refine hK.2.2 _ _ _ ?hne ?_; (case hne => simp; done); clear hK K))
    refine done_ret rfl ⟨k_h0, _, by simp [c1]; rfl, ?_⟩
    rw [walkR, if_neg (by simp [c1])]
    exact .nil _ _
  · by_cases c2 : (20 : Int) < (ch.length : Int)
    · have cB := chB_long c2
      repeat (first
        | (refine WD_block (fun K hK => ?_))
        | (refine WD_seq (fun K hK => ?_))
        | (refine WD_region (fun K hK => ?_))
        | ((first | refine RunD_o rfl rfl rfl rfl rfl (fun X hX => ?_) | refine RunD_s rfl rfl rfl rfl (fun X hX => ?_) | refine RunD_g rfl rfl rfl rfl rfl rfl rfl (fun X Y hX hY => ?_) | refine RunD_gc rfl rfl rfl rfl rfl rfl (fun Y hY => ?_) | refine WD_c rfl (fun X Y hX hY => ?_)); (try dsimp only); simp (disch := first | omega | (simp; done) | fail) [wrap64c, if_pos, if_neg, opAnd, opOr, opXor, opDiff, opShr, opBit, hM, g_h0, c1, c2]; (first | refine hX _ _ ?_ | refine hX ?_ | refine hY ?_); (try clear hX X); try clear hY Y)
        | (refine RunD_nil ?_; refine hK _ _ ?_; clear hK K)
        | (refine RunD_nil ?_)
        | (refine WD_skip ?_)
        | (refine WD_exit ?_)
        | (refine WD_ret ?_)
        | (refine hK.1 _ _ ?_; clear hK K)
        | (refine hK.2.1 _ _ ?_; clear hK K)
        | (refine hK.2 _ _ _ ?hne ?_; (case hne => simp; done); clear hK K)
        | (refine hK.2.2 _ _ _ ?hne ?_; (case hne => simp; done); clear hK K))
      refine done_ret rfl ⟨k_h0, _, by simp [c1, cB]; rfl, ?_⟩
      rw [walkR, if_neg (by simp [c1, cB])]
      exact .nil _ _
    · repeat (first
        | (refine WD_block (fun K hK => ?_))
        | (refine WD_seq (fun K hK => ?_))
        | (refine WD_region (fun K hK => ?_))
        | ((first | refine RunD_o rfl rfl rfl rfl rfl (fun X hX => ?_) | refine RunD_s rfl rfl rfl rfl (fun X hX => ?_) | refine RunD_g rfl rfl rfl rfl rfl rfl rfl (fun X Y hX hY => ?_) | refine RunD_gc rfl rfl rfl rfl rfl rfl (fun Y hY => ?_) | refine WD_c rfl (fun X Y hX hY => ?_)); (try dsimp only); simp (disch := first | omega | (simp; done) | fail) [wrap64c, if_pos, if_neg, opAnd, opOr, opXor, opDiff, opShr, opBit, hM, g_h0, c1, c2]; (first | refine hX _ _ ?_ | refine hX ?_ | refine hY ?_); (try clear hX X); try clear hY Y)
        | (refine RunD_nil ?_; refine hK _ _ ?_; clear hK K)
        | (refine RunD_nil ?_)
        | (refine WD_skip ?_)
        | (refine WD_exit ?_)
        | (refine WD_ret ?_)
        | (refine hK.1 _ _ ?_; clear hK K)
        | (refine hK.2.1 _ _ ?_; clear hK K)
        | (refine hK.2 _ _ _ ?hne ?_; (case hne => simp; done); clear hK K)
        | (refine hK.2.2 _ _ _ ?hne ?_; (case hne => simp; done); clear hK K))
      refine WD_loopF [1, 2, 23, 24] (fun m tm h' => ∃ j, m = ch.length - j ∧ h0 = h' ∧ tm 25 = .int .i64 (j : Int) ∧ (j ≤ ch.length) ∧ (∀ i (h1 : i < ch.length), i < j → 0 ≤ ch[i])) _ ⟨0, rfl, rfl, (by simp (disch := first | omega | (simp; done) | fail) [wrap64c, if_pos, if_neg, opAnd, opOr, opXor, opDiff, opShr, opBit, hM, g_h0, c1, c2]), (by first | omega | assumption | (simp (disch := first | omega | (simp; done) | fail) [wrap64c, if_pos, if_neg, opAnd, opOr, opXor, opDiff, opShr, opBit, hM, g_h0, c1, c2] <;> omega)), (by intro i h1 h0; omega)⟩ ?_
      rintro m tm h' hFr ⟨j, rfl, rfl, e25, hj, hp⟩ K hK
      simp only [FrameL] at hFr
      obtain ⟨f1_0, f2_0, f23_0, f24_0, -⟩ := hFr
      try simp (disch := first | omega | (simp; done) | fail) [wrap64c, if_pos, if_neg, opAnd, opOr, opXor, opDiff, opShr, opBit, hM, g_h0, c1, c2] at f1_0 f2_0 f23_0 f24_0
      have e1 := f1_0
      have e2 := f2_0
      have e23 := f23_0
      have e24 := f24_0
      by_cases hlt : j < ch.length
      · obtain ⟨o_x, i_x, c_x, cs_x, own_x, ex_x, es_x, q_x, b_x, g_x, l_x, r_x⟩ := hw0.open ((by omega))
        have z_x : ∀ h2 : i_x < cs_x.length, cs_x[i_x] = _ := fun h2 => r_x 0 ((by omega)) h2
        by_cases hneg : ch[j] < 0
        · have cB := chB_neg (m := 20) hlt hneg
          repeat (first
            | (refine WD_block (fun K hK => ?_))
            | (refine WD_seq (fun K hK => ?_))
            | (refine WD_region (fun K hK => ?_))
            | ((first | refine RunD_o rfl rfl rfl rfl rfl (fun X hX => ?_) | refine RunD_s rfl rfl rfl rfl (fun X hX => ?_) | refine RunD_g rfl rfl rfl rfl rfl rfl rfl (fun X Y hX hY => ?_) | refine RunD_gc rfl rfl rfl rfl rfl rfl (fun Y hY => ?_) | refine WD_c rfl (fun X Y hX hY => ?_)); (try dsimp only); simp (disch := first | omega | (simp; done) | fail) [wrap64c, if_pos, if_neg, opAnd, opOr, opXor, opDiff, opShr, opBit, hM, g_h0, c1, c2, e1, e2, e23, e24, e25, hlt, q_x, g_x, l_x, r_x, z_x, hneg]; (first | refine hX _ _ ?_ | refine hX ?_ | refine hY ?_); (try clear hX X); try clear hY Y)
            | (refine RunD_nil ?_; refine hK _ _ ?_; clear hK K)
            | (refine RunD_nil ?_)
            | (refine WD_skip ?_)
            | (refine WD_exit ?_)
            | (refine WD_ret ?_)
            | (refine hK.1 _ _ ?_; clear hK K)
            | (refine hK.2.1 _ _ ?_; clear hK K)
            | (refine hK.2 _ _ _ ?hne ?_; (case hne => simp; done); clear hK K)
            | (refine hK.2.2 _ _ _ ?hne ?_; (case hne => simp; done); clear hK K))
          refine done_ret rfl ⟨k_h0, _, by simp [c1, cB]; rfl, ?_⟩
          rw [walkR, if_neg (by simp [c1, cB])]
          exact .nil _ _
        · repeat (first
            | (refine WD_block (fun K hK => ?_))
            | (refine WD_seq (fun K hK => ?_))
            | (refine WD_region (fun K hK => ?_))
            | ((first | refine RunD_o rfl rfl rfl rfl rfl (fun X hX => ?_) | refine RunD_s rfl rfl rfl rfl (fun X hX => ?_) | refine RunD_g rfl rfl rfl rfl rfl rfl rfl (fun X Y hX hY => ?_) | refine RunD_gc rfl rfl rfl rfl rfl rfl (fun Y hY => ?_) | refine WD_c rfl (fun X Y hX hY => ?_)); (try dsimp only); simp (disch := first | omega | (simp; done) | fail) [wrap64c, if_pos, if_neg, opAnd, opOr, opXor, opDiff, opShr, opBit, hM, g_h0, c1, c2, e1, e2, e23, e24, e25, hlt, q_x, g_x, l_x, r_x, z_x, hneg]; (first | refine hX _ _ ?_ | refine hX ?_ | refine hY ?_); (try clear hX X); try clear hY Y)
            | (refine RunD_nil ?_; refine hK _ _ ?_; clear hK K)
            | (refine RunD_nil ?_)
            | (refine WD_skip ?_)
            | (refine WD_exit ?_)
            | (refine WD_ret ?_)
            | (refine hK.1 _ _ ?_; clear hK K)
            | (refine hK.2.1 _ _ ?_; clear hK K)
            | (refine hK.2 _ _ _ ?hne ?_; (case hne => simp; done); clear hK K)
            | (refine hK.2.2 _ _ _ ?hne ?_; (case hne => simp; done); clear hK K))
          refine hK.1 _ _ _ ?hm ?hf ⟨j + 1, rfl, rfl, (by simp (disch := first | omega | (simp; done) | fail) [wrap64c, if_pos, if_neg, opAnd, opOr, opXor, opDiff, opShr, opBit, hM, g_h0, c1, c2, e1, e2, e23, e24, e25, hlt, q_x, g_x, l_x, r_x, z_x, hneg] <;> omega), (by first | omega | assumption | (simp (disch := first | omega | (simp; done) | fail) [wrap64c, if_pos, if_neg, opAnd, opOr, opXor, opDiff, opShr, opBit, hM, g_h0, c1, c2, e1, e2, e23, e24, e25, hlt, q_x, g_x, l_x, r_x, z_x, hneg] <;> omega)), ?c_hp⟩
          (case hm => first | omega | (simp; omega))
          (case hf => simp [FrameL, hM, g_h0, c1, c2, e1, e2, e23, e24, e25, hlt, q_x, g_x, l_x, r_x, z_x, hneg, f1_0, f2_0, f23_0, f24_0])
          case c_hp =>
            exact (fun i h1 hi => by
              by_cases e : i = j
              · subst e; omega
              · exact hp i h1 (by omega))
      · have cB := chB_of (m := 20) (by omega) (fun i h1 => hp i h1 (by omega))
        have hcp := (chB_pos cB).2
        obtain ⟨n, xs, hN, hXe, g⟩ := spB_true c1
        have hNt : N = (n : Int) := hN
        have hX1 : Ints h0 b (toN xs) := hXe ▸ hX0
        have n7 := g.n7
        have hb7 := bit7 n7
        repeat (first
          | (refine WD_block (fun K hK => ?_))
          | (refine WD_seq (fun K hK => ?_))
          | (refine WD_region (fun K hK => ?_))
          | ((first | refine RunD_o rfl rfl rfl rfl rfl (fun X hX => ?_) | refine RunD_s rfl rfl rfl rfl (fun X hX => ?_) | refine RunD_g rfl rfl rfl rfl rfl rfl rfl (fun X Y hX hY => ?_) | refine RunD_gc rfl rfl rfl rfl rfl rfl (fun Y hY => ?_) | refine WD_c rfl (fun X Y hX hY => ?_)); (try dsimp only); simp (disch := first | omega | (simp; done) | fail) [wrap64c, if_pos, if_neg, opAnd, opOr, opXor, opDiff, opShr, opBit, hM, g_h0, c1, c2, e1, e2, e23, e24, e25, hlt, hNt]; (first | refine hX _ _ ?_ | refine hX ?_ | refine hY ?_); (try clear hX X); try clear hY Y)
          | (refine RunD_nil ?_; refine hK _ _ ?_; clear hK K)
          | (refine RunD_nil ?_)
          | (refine WD_skip ?_)
          | (refine WD_exit ?_)
          | (refine WD_ret ?_)
          | (refine hK.1 _ _ ?_; clear hK K)
          | (refine hK.2.1 _ _ ?_; clear hK K)
          | (refine hK.2 _ _ _ ?hne ?_; (case hne => simp; done); clear hK K)
          | (refine hK.2.2 _ _ _ ?hne ?_; (case hne => simp; done); clear hK K))
        refine WD_loopF [1, 2] (fun m tm h' => ∃ k u, m = n - k ∧ tm 8 = u ∧ tm 9 = .int .i64 (((walkS (fam xs) n ch k).2 : Nat) : Int) ∧ tm 10 = .int .i64 (k : Int) ∧ (k ≤ n) ∧ (Adds h0 h') ∧ (IntsA h0.next h' u (toN (walkS (fam xs) n ch k).1))) _ ⟨0, _, rfl, (by simp (disch := first | omega | (simp; done) | fail) [wrap64c, if_pos, if_neg, opAnd, opOr, opXor, opDiff, opShr, opBit, hM, g_h0, c1, c2, e1, e2, e23, e24, e25, hlt, hNt]), (by simp [walkS]), (by simp (disch := first | omega | (simp; done) | fail) [wrap64c, if_pos, if_neg, opAnd, opOr, opXor, opDiff, opShr, opBit, hM, g_h0, c1, c2, e1, e2, e23, e24, e25, hlt, hNt]), (by first | omega | assumption | (simp (disch := first | omega | (simp; done) | fail) [wrap64c, if_pos, if_neg, opAnd, opOr, opXor, opDiff, opShr, opBit, hM, g_h0, c1, c2, e1, e2, e23, e24, e25, hlt, hNt] <;> omega)), (adds_self _), (.nil _ _)⟩ ?_
        rintro m tm h' hFr ⟨k, u, rfl, e8, e9, e10, hk, ha, hu⟩ K hK
        simp only [FrameL] at hFr
        obtain ⟨f1_1, f2_1, -⟩ := hFr
        try simp (disch := first | omega | (simp; done) | fail) [wrap64c, if_pos, if_neg, opAnd, opOr, opXor, opDiff, opShr, opBit, hM, g_h0, c1, c2, e1, e2, e23, e24, e25, hlt, hNt] at f1_1 f2_1
        have e1 := f1_1
        have e2 := f2_1
        have hlu := walk_len (fam xs) n ch k
        have hlu2 : (toN (walkS (fam xs) n ch k).1).length = k := by rw [toN_length, hlu]
        obtain ⟨hi1, hi2⟩ := walk_inv g ch k hk
        have hs128 := g.lt7 _ hi1
        have g1 : h'.get h.next = .cells [.int .i64 N, b] true true 1 := by rw [ha.1.2 _ (by omega)]; exact g_h0
        have hn2 := ha.1.1
        by_cases hlk : k < n
        · obtain ⟨s, hs⟩ : ∃ s, s = (walkS (fam xs) n ch k).2 := ⟨_, rfl⟩
          have hwn := walk_ne g ch hlk
          have hmem := pickN_mem (ch := ch) (k := k) hwn
          obtain ⟨l1, l2, l3⟩ := g.learn hmem
          rw [← hs] at hwn hmem l1 l2 l3 hs128
          have hs2 := hs.symm
          obtain ⟨o, hoe⟩ : ∃ o, o = outerN (fam xs) n s := ⟨_, rfl⟩
          have hout := outerN_lt (fam xs) n s
          have hsp := spOuter_ok h' (.agg #[.int .i64 (n : Int), b]) n xs s (.mk (hX1.keep ha.1)) n7 (by have := g.len7; omega) g.srt hs128
          rw [← hoe] at hout hwn hmem l1 l2 l3 hsp
          obtain ⟨i0, hi0⟩ : ∃ i0, i0 = pickN ch k (itemsN o) := ⟨_, rfl⟩
          have hi0' := hi0
          rw [← hi0] at hmem l1 l2 l3
          have hp64 := bit_lt7 (i := i0) (by omega)
          have hor := g.lt7 _ l3
          repeat (first
            | (refine WD_block (fun K hK => ?_))
            | (refine WD_seq (fun K hK => ?_))
            | (refine WD_region (fun K hK => ?_))
            | ((first | refine RunD_o rfl rfl rfl rfl rfl (fun X hX => ?_) | refine RunD_s rfl rfl rfl rfl (fun X hX => ?_) | refine RunD_g rfl rfl rfl rfl rfl rfl rfl (fun X Y hX hY => ?_) | refine RunD_gc rfl rfl rfl rfl rfl rfl (fun Y hY => ?_) | refine WD_c rfl (fun X Y hX hY => ?_)); (try dsimp only); simp (disch := first | omega | (simp; done) | fail) [wrap64c, if_pos, if_neg, opAnd, opOr, opXor, opDiff, opShr, opBit, hM, g_h0, c1, c2, e1, e2, e23, e24, e25, hlt, hNt, e8, e9, e10, g1, hlk, hs2]; (first | refine hX _ _ ?_ | refine hX ?_ | refine hY ?_); (try clear hX X); try clear hY Y)
            | (refine RunD_nil ?_; refine hK _ _ ?_; clear hK K)
            | (refine RunD_nil ?_)
            | (refine WD_skip ?_)
            | (refine WD_exit ?_)
            | (refine WD_ret ?_)
            | (refine hK.1 _ _ ?_; clear hK K)
            | (refine hK.2.1 _ _ ?_; clear hK K)
            | (refine hK.2 _ _ _ ?hne ?_; (case hne => simp; done); clear hK K)
            | (refine hK.2.2 _ _ _ ?hne ?_; (case hne => simp; done); clear hK K))
          refine RunD_c rfl rfl rfl rfl (by simp) (by simp) ?ha (hsp) ?_
          (case ha => simp (disch := first | omega | (simp; done) | fail) [wrap64c, if_pos, if_neg, opAnd, opOr, opXor, opDiff, opShr, opBit, hM, g_h0, c1, c2, e1, e2, e23, e24, e25, hlt, hNt, e8, e9, e10, g1, hlk, hs2])
          repeat (first
            | (refine WD_block (fun K hK => ?_))
            | (refine WD_seq (fun K hK => ?_))
            | (refine WD_region (fun K hK => ?_))
            | ((first | refine RunD_o rfl rfl rfl rfl rfl (fun X hX => ?_) | refine RunD_s rfl rfl rfl rfl (fun X hX => ?_) | refine RunD_g rfl rfl rfl rfl rfl rfl rfl (fun X Y hX hY => ?_) | refine RunD_gc rfl rfl rfl rfl rfl rfl (fun Y hY => ?_) | refine WD_c rfl (fun X Y hX hY => ?_)); (try dsimp only); simp (disch := first | omega | (simp; done) | fail) [wrap64c, if_pos, if_neg, opAnd, opOr, opXor, opDiff, opShr, opBit, hM, g_h0, c1, c2, e1, e2, e23, e24, e25, hlt, hNt, e8, e9, e10, g1, hlk, hs2]; (first | refine hX _ _ ?_ | refine hX ?_ | refine hY ?_); (try clear hX X); try clear hY Y)
            | (refine RunD_nil ?_; refine hK _ _ ?_; clear hK K)
            | (refine RunD_nil ?_)
            | (refine WD_skip ?_)
            | (refine WD_exit ?_)
            | (refine WD_ret ?_)
            | (refine hK.1 _ _ ?_; clear hK K)
            | (refine hK.2.1 _ _ ?_; clear hK K)
            | (refine hK.2 _ _ _ ?hne ?_; (case hne => simp; done); clear hK K)
            | (refine hK.2.2 _ _ _ ?hne ?_; (case hne => simp; done); clear hK K))
          first | refine WD_heap fun h1 q_h1 => ?_ | refine RunD_heap fun h1 q_h1 => ?_ | refine PreD_heap fun h1 q_h1 => ?_ | refine Done_heap fun h1 q_h1 => ?_
          subst q_h1
          refine WD_loopF [1, 2, 8, 9, 10, 12] (fun m tm h' => ∃ i y, m = n - i ∧ tm 11 = y ∧ tm 13 = .int .i64 (i : Int) ∧ (i ≤ n) ∧ (Adds h1 h') ∧ (IntsA h1.next h' y (toN (itemsK o i)))) _ ⟨0, _, rfl, (by simp (disch := first | omega | (simp; done) | fail) [wrap64c, if_pos, if_neg, opAnd, opOr, opXor, opDiff, opShr, opBit, hM, g_h0, c1, c2, e1, e2, e23, e24, e25, hlt, hNt, e8, e9, e10, g1, hlk, hs2]), (by simp (disch := first | omega | (simp; done) | fail) [wrap64c, if_pos, if_neg, opAnd, opOr, opXor, opDiff, opShr, opBit, hM, g_h0, c1, c2, e1, e2, e23, e24, e25, hlt, hNt, e8, e9, e10, g1, hlk, hs2]), (by first | omega | assumption | (simp (disch := first | omega | (simp; done) | fail) [wrap64c, if_pos, if_neg, opAnd, opOr, opXor, opDiff, opShr, opBit, hM, g_h0, c1, c2, e1, e2, e23, e24, e25, hlt, hNt, e8, e9, e10, g1, hlk, hs2] <;> omega)), (adds_self _), (.nil _ _)⟩ ?_
          rintro m tm h' hFr ⟨i, y, rfl, e11, e13, hi, hb, hy⟩ K hK
          simp only [FrameL] at hFr
          obtain ⟨f1_2, f2_2, f8_2, f9_2, f10_2, f12_2, -⟩ := hFr
          try simp (disch := first | omega | (simp; done) | fail) [wrap64c, if_pos, if_neg, opAnd, opOr, opXor, opDiff, opShr, opBit, hM, g_h0, c1, c2, e1, e2, e23, e24, e25, hlt, hNt, e8, e9, e10, g1, hlk, hs2] at f1_2 f2_2 f8_2 f9_2 f10_2 f12_2
          have e1 := f1_2
          have e2 := f2_2
          have e8 := f8_2
          have e9 := f9_2
          have e10 := f10_2
          have e12 := f12_2
          have hn3 := hb.1.1
          have g2 : h'.get h.next = .cells [.int .i64 N, b] true true 1 := by rw [hb.1.2 _ (by omega)]; exact g1
          have hle := itemsK_len o i
          by_cases hli : i < n
          · repeat (first
              | (refine WD_block (fun K hK => ?_))
              | (refine WD_seq (fun K hK => ?_))
              | (refine WD_region (fun K hK => ?_))
              | ((first | refine RunD_o rfl rfl rfl rfl rfl (fun X hX => ?_) | refine RunD_s rfl rfl rfl rfl (fun X hX => ?_) | refine RunD_g rfl rfl rfl rfl rfl rfl rfl (fun X Y hX hY => ?_) | refine RunD_gc rfl rfl rfl rfl rfl rfl (fun Y hY => ?_) | refine WD_c rfl (fun X Y hX hY => ?_)); (try dsimp only); simp (disch := first | omega | (simp; done) | fail) [wrap64c, if_pos, if_neg, opAnd, opOr, opXor, opDiff, opShr, opBit, hM, g_h0, c1, c2, e1, e2, e23, e24, e25, hlt, hNt, e8, e9, e10, g1, hlk, hs2, e11, e12, e13, g2, hli]; (first | refine hX _ _ ?_ | refine hX ?_ | refine hY ?_); (try clear hX X); try clear hY Y)
              | (refine RunD_nil ?_; refine hK _ _ ?_; clear hK K)
              | (refine RunD_nil ?_)
              | (refine WD_skip ?_)
              | (refine WD_exit ?_)
              | (refine WD_ret ?_)
              | (refine hK.1 _ _ ?_; clear hK K)
              | (refine hK.2.1 _ _ ?_; clear hK K)
              | (refine hK.2 _ _ _ ?hne ?_; (case hne => simp; done); clear hK K)
              | (refine hK.2.2 _ _ _ ?hne ?_; (case hne => simp; done); clear hK K))
            refine RunD_c rfl rfl rfl rfl (by simp) (by simp) ?ha (spIn_ok h' o i (by omega) (by omega)) ?_
            (case ha => simp (disch := first | omega | (simp; done) | fail) [wrap64c, if_pos, if_neg, opAnd, opOr, opXor, opDiff, opShr, opBit, hM, g_h0, c1, c2, e1, e2, e23, e24, e25, hlt, hNt, e8, e9, e10, g1, hlk, hs2, e11, e12, e13, g2, hli])
            have hsn := itemsK_succ o i
            cases hbi : o.testBit i
            · rw [hbi] at hsn
              repeat (first
                | (refine WD_block (fun K hK => ?_))
                | (refine WD_seq (fun K hK => ?_))
                | (refine WD_region (fun K hK => ?_))
                | ((first | refine RunD_o rfl rfl rfl rfl rfl (fun X hX => ?_) | refine RunD_s rfl rfl rfl rfl (fun X hX => ?_) | refine RunD_g rfl rfl rfl rfl rfl rfl rfl (fun X Y hX hY => ?_) | refine RunD_gc rfl rfl rfl rfl rfl rfl (fun Y hY => ?_) | refine WD_c rfl (fun X Y hX hY => ?_)); (try dsimp only); simp (disch := first | omega | (simp; done) | fail) [wrap64c, if_pos, if_neg, opAnd, opOr, opXor, opDiff, opShr, opBit, hM, g_h0, c1, c2, e1, e2, e23, e24, e25, hlt, hNt, e8, e9, e10, g1, hlk, hs2, e11, e12, e13, g2, hli, hbi]; (first | refine hX _ _ ?_ | refine hX ?_ | refine hY ?_); (try clear hX X); try clear hY Y)
                | (refine RunD_nil ?_; refine hK _ _ ?_; clear hK K)
                | (refine RunD_nil ?_)
                | (refine WD_skip ?_)
                | (refine WD_exit ?_)
                | (refine WD_ret ?_)
                | (refine hK.1 _ _ ?_; clear hK K)
                | (refine hK.2.1 _ _ ?_; clear hK K)
                | (refine hK.2 _ _ _ ?hne ?_; (case hne => simp; done); clear hK K)
                | (refine hK.2.2 _ _ _ ?hne ?_; (case hne => simp; done); clear hK K))
              refine hK.1 _ _ _ ?hm ?hf ⟨i + 1, y, rfl, (by simp (disch := first | omega | (simp; done) | fail) [wrap64c, if_pos, if_neg, opAnd, opOr, opXor, opDiff, opShr, opBit, hM, g_h0, c1, c2, e1, e2, e23, e24, e25, hlt, hNt, e8, e9, e10, g1, hlk, hs2, e11, e12, e13, g2, hli, hbi] <;> omega), (by simp (disch := first | omega | (simp; done) | fail) [wrap64c, if_pos, if_neg, opAnd, opOr, opXor, opDiff, opShr, opBit, hM, g_h0, c1, c2, e1, e2, e23, e24, e25, hlt, hNt, e8, e9, e10, g1, hlk, hs2, e11, e12, e13, g2, hli, hbi] <;> omega), (by first | omega | assumption | (simp (disch := first | omega | (simp; done) | fail) [wrap64c, if_pos, if_neg, opAnd, opOr, opXor, opDiff, opShr, opBit, hM, g_h0, c1, c2, e1, e2, e23, e24, e25, hlt, hNt, e8, e9, e10, g1, hlk, hs2, e11, e12, e13, g2, hli, hbi] <;> omega)), (by first | omega | assumption | (simp (disch := first | omega | (simp; done) | fail) [wrap64c, if_pos, if_neg, opAnd, opOr, opXor, opDiff, opShr, opBit, hM, g_h0, c1, c2, e1, e2, e23, e24, e25, hlt, hNt, e8, e9, e10, g1, hlk, hs2, e11, e12, e13, g2, hli, hbi] <;> omega)), (by rw [hsn]; exact hy)⟩
              (case hm => first | omega | (simp; omega))
              (case hf => simp [FrameL, hM, g_h0, c1, c2, e1, e2, e23, e24, e25, hlt, hNt, e8, e9, e10, g1, hlk, hs2, e11, e12, e13, g2, hli, hbi, f1_2, f2_2, f8_2, f9_2, f10_2, f12_2])
            · rw [hbi] at hsn
              repeat (first
                | (refine WD_block (fun K hK => ?_))
                | (refine WD_seq (fun K hK => ?_))
                | (refine WD_region (fun K hK => ?_))
                | ((first | refine RunD_o rfl rfl rfl rfl rfl (fun X hX => ?_) | refine RunD_s rfl rfl rfl rfl (fun X hX => ?_) | refine RunD_g rfl rfl rfl rfl rfl rfl rfl (fun X Y hX hY => ?_) | refine RunD_gc rfl rfl rfl rfl rfl rfl (fun Y hY => ?_) | refine WD_c rfl (fun X Y hX hY => ?_)); (try dsimp only); simp (disch := first | omega | (simp; done) | fail) [wrap64c, if_pos, if_neg, opAnd, opOr, opXor, opDiff, opShr, opBit, hM, g_h0, c1, c2, e1, e2, e23, e24, e25, hlt, hNt, e8, e9, e10, g1, hlk, hs2, e11, e12, e13, g2, hli, hbi]; (first | refine hX _ _ ?_ | refine hX ?_ | refine hY ?_); (try clear hX X); try clear hY Y)
                | (refine RunD_nil ?_; refine hK _ _ ?_; clear hK K)
                | (refine RunD_nil ?_)
                | (refine WD_skip ?_)
                | (refine WD_exit ?_)
                | (refine WD_ret ?_)
                | (refine hK.1 _ _ ?_; clear hK K)
                | (refine hK.2.1 _ _ ?_; clear hK K)
                | (refine hK.2 _ _ _ ?hne ?_; (case hne => simp; done); clear hK K)
                | (refine hK.2.2 _ _ _ ?hne ?_; (case hne => simp; done); clear hK K))
              obtain ⟨y2, h2, hap, hy2, ha2, hn4, hs3⟩ := appI hy (i : Int) (by simp; omega) hn3 hb (Nat.le_refl _)
              repeat (first
                | (refine WD_block (fun K hK => ?_))
                | (refine WD_seq (fun K hK => ?_))
                | (refine WD_region (fun K hK => ?_))
                | ((first | refine RunD_o rfl rfl rfl rfl rfl (fun X hX => ?_) | refine RunD_s rfl rfl rfl rfl (fun X hX => ?_) | refine RunD_g rfl rfl rfl rfl rfl rfl rfl (fun X Y hX hY => ?_) | refine RunD_gc rfl rfl rfl rfl rfl rfl (fun Y hY => ?_) | refine WD_c rfl (fun X Y hX hY => ?_)); (try dsimp only); simp (disch := first | omega | (simp; done) | fail) [wrap64c, if_pos, if_neg, opAnd, opOr, opXor, opDiff, opShr, opBit, hM, g_h0, c1, c2, e1, e2, e23, e24, e25, hlt, hNt, e8, e9, e10, g1, hlk, hs2, e11, e12, e13, g2, hli, hbi, hap]; (first | refine hX _ _ ?_ | refine hX ?_ | refine hY ?_); (try clear hX X); try clear hY Y)
                | (refine RunD_nil ?_; refine hK _ _ ?_; clear hK K)
                | (refine RunD_nil ?_)
                | (refine WD_skip ?_)
                | (refine WD_exit ?_)
                | (refine WD_ret ?_)
                | (refine hK.1 _ _ ?_; clear hK K)
                | (refine hK.2.1 _ _ ?_; clear hK K)
                | (refine hK.2 _ _ _ ?hne ?_; (case hne => simp; done); clear hK K)
                | (refine hK.2.2 _ _ _ ?hne ?_; (case hne => simp; done); clear hK K))
              refine hK.1 _ _ _ ?hm ?hf ⟨i + 1, y2, rfl, (by simp (disch := first | omega | (simp; done) | fail) [wrap64c, if_pos, if_neg, opAnd, opOr, opXor, opDiff, opShr, opBit, hM, g_h0, c1, c2, e1, e2, e23, e24, e25, hlt, hNt, e8, e9, e10, g1, hlk, hs2, e11, e12, e13, g2, hli, hbi] <;> omega), (by simp (disch := first | omega | (simp; done) | fail) [wrap64c, if_pos, if_neg, opAnd, opOr, opXor, opDiff, opShr, opBit, hM, g_h0, c1, c2, e1, e2, e23, e24, e25, hlt, hNt, e8, e9, e10, g1, hlk, hs2, e11, e12, e13, g2, hli, hbi] <;> omega), (by first | omega | assumption | (simp (disch := first | omega | (simp; done) | fail) [wrap64c, if_pos, if_neg, opAnd, opOr, opXor, opDiff, opShr, opBit, hM, g_h0, c1, c2, e1, e2, e23, e24, e25, hlt, hNt, e8, e9, e10, g1, hlk, hs2, e11, e12, e13, g2, hli, hbi] <;> omega)), (by first | omega | assumption | (simp (disch := first | omega | (simp; done) | fail) [wrap64c, if_pos, if_neg, opAnd, opOr, opXor, opDiff, opShr, opBit, hM, g_h0, c1, c2, e1, e2, e23, e24, e25, hlt, hNt, e8, e9, e10, g1, hlk, hs2, e11, e12, e13, g2, hli, hbi] <;> omega)), (by rw [hsn, if_pos rfl, toN_snoc]; exact hy2)⟩
              (case hm => first | omega | (simp; omega))
              (case hf => simp [FrameL, hM, g_h0, c1, c2, e1, e2, e23, e24, e25, hlt, hNt, e8, e9, e10, g1, hlk, hs2, e11, e12, e13, g2, hli, hbi, f1_2, f2_2, f8_2, f9_2, f10_2, f12_2])
          · have hie : i = n := by omega
            have hKe := itemsK_eq hout n7
            rw [hie, hKe] at hy
            have hil := items_len o
            have hl0 : 0 < (itemsN o).length := List.length_pos_iff.2 hwn
            have hyr := ia_read hy (by simp; omega)
            have hL := hyr.lenD
            have hgt := toN_get (itemsN o)
            have hln := toN_length (itemsN o)
            have hne1 : ¬ itemsN o = [] := hwn
            have hu2 := hu.keep hb.1
            obtain ⟨o_x, i_x, c_x, cs_x, own_x, ex_x, es_x, q_x, b_x, g_x, l_x, r_x⟩ := hyr.open ((by omega))
            have z_x : ∀ h2 : i_x < cs_x.length, cs_x[i_x] = _ := fun h2 => r_x 0 ((by omega)) h2
            by_cases hk2 : k < ch.length
            · obtain ⟨o_c, i_c, c_c, cs_c, own_c, ex_c, es_c, q_c, b_c, g_c, l_c, r_c⟩ := ((hw0.keep ha.1).keep hb.1).open ((by omega))
              have z_c : ∀ h2 : i_c < cs_c.length, cs_c[i_c] = _ := fun h2 => r_c 0 ((by omega)) h2
              obtain ⟨q, hq⟩ : ∃ q : Nat, ch[k] = q := ⟨ch[k].toNat, by have := hcp _ (List.getElem_mem hk2); omega⟩
              have hml := Nat.mod_lt q hl0
              obtain ⟨r, hr⟩ : ∃ r, r = q % (itemsN o).length := ⟨_, rfl⟩
              rw [← hr] at hml
              have hmd : Int.tmod (q : Int) ((itemsN o).length : Int) = r := by rw [Int.tmod_eq_emod_of_nonneg (by omega), hr]; rfl
              have hpk : i0 = (itemsN o)[r] := by
                rw [hi0']
                unfold pickN
                rw [dif_pos hk2, hq, Int.toNat_natCast, ← hr, List.getD_eq_getElem?_getD, List.getElem?_eq_getElem hml]; rfl
              repeat (first
                | (refine WD_block (fun K hK => ?_))
                | (refine WD_seq (fun K hK => ?_))
                | (refine WD_region (fun K hK => ?_))
                | ((first | refine RunD_o rfl rfl rfl rfl rfl (fun X hX => ?_) | refine RunD_s rfl rfl rfl rfl (fun X hX => ?_) | refine RunD_g rfl rfl rfl rfl rfl rfl rfl (fun X Y hX hY => ?_) | refine RunD_gc rfl rfl rfl rfl rfl rfl (fun Y hY => ?_) | refine WD_c rfl (fun X Y hX hY => ?_)); (try dsimp only); simp (disch := first | omega | (simp; done) | fail) [wrap64c, if_pos, if_neg, opAnd, opOr, opXor, opDiff, opShr, opBit, hM, g_h0, c1, c2, e1, e2, e23, e24, e25, hlt, hNt, e8, e9, e10, g1, hlk, hs2, e11, e12, e13, g2, hli, hL, hgt, hne1, q_x, g_x, l_x, r_x, z_x, hk2, q_c, g_c, l_c, r_c, z_c, hq, hmd]; (first | refine hX _ _ ?_ | refine hX ?_ | refine hY ?_); (try clear hX X); try clear hY Y)
                | (refine RunD_nil ?_; refine hK _ _ ?_; clear hK K)
                | (refine RunD_nil ?_)
                | (refine WD_skip ?_)
                | (refine WD_exit ?_)
                | (refine WD_ret ?_)
                | (refine hK.1 _ _ ?_; clear hK K)
                | (refine hK.2.1 _ _ ?_; clear hK K)
                | (refine hK.2 _ _ _ ?hne ?_; (case hne => simp; done); clear hK K)
                | (refine hK.2.2 _ _ _ ?hne ?_; (case hne => simp; done); clear hK K))
              have hgr : ∀ hh, (itemsN o)[r]'hh = i0 := fun _ => hpk.symm
              repeat (first
                | (refine WD_block (fun K hK => ?_))
                | (refine WD_seq (fun K hK => ?_))
                | (refine WD_region (fun K hK => ?_))
                | ((first | refine RunD_o rfl rfl rfl rfl rfl (fun X hX => ?_) | refine RunD_s rfl rfl rfl rfl (fun X hX => ?_) | refine RunD_g rfl rfl rfl rfl rfl rfl rfl (fun X Y hX hY => ?_) | refine RunD_gc rfl rfl rfl rfl rfl rfl (fun Y hY => ?_) | refine WD_c rfl (fun X Y hX hY => ?_)); (try dsimp only); simp (disch := first | omega | (simp; done) | fail) [wrap64c, if_pos, if_neg, opAnd, opOr, opXor, opDiff, opShr, opBit, hM, g_h0, c1, c2, e1, e2, e23, e24, e25, hlt, hNt, e8, e9, e10, g1, hlk, hs2, e11, e12, e13, g2, hli, hL, hgt, hne1, q_x, g_x, l_x, r_x, z_x, hk2, q_c, g_c, l_c, r_c, z_c, hq, hmd, hgr]; (first | refine hX _ _ ?_ | refine hX ?_ | refine hY ?_); (try clear hX X); try clear hY Y)
                | (refine RunD_nil ?_; refine hK _ _ ?_; clear hK K)
                | (refine RunD_nil ?_)
                | (refine WD_skip ?_)
                | (refine WD_exit ?_)
                | (refine WD_ret ?_)
                | (refine hK.1 _ _ ?_; clear hK K)
                | (refine hK.2.1 _ _ ?_; clear hK K)
                | (refine hK.2 _ _ _ ?hne ?_; (case hne => simp; done); clear hK K)
                | (refine hK.2.2 _ _ _ ?hne ?_; (case hne => simp; done); clear hK K))
              obtain ⟨u3, h3, hap, hu3, ha3, hn5, hs3⟩ := appI2 hu2 (i0 : Int) (by omega) (by omega) (ha.trans hb) (Nat.le_refl _)
              obtain ⟨sm3, _⟩ := hs3 (fun q => h1.next ≤ q ∧ q < h'.next) (fun q hq => hq.2) ((ia_off hu (Nat.le_refl _)).mono fun q hq => hq.1)
              have hy3 := (((hy.own (by simp; omega)).read).same sm3).ints
              repeat (first
                | (refine WD_block (fun K hK => ?_))
                | (refine WD_seq (fun K hK => ?_))
                | (refine WD_region (fun K hK => ?_))
                | ((first | refine RunD_o rfl rfl rfl rfl rfl (fun X hX => ?_) | refine RunD_s rfl rfl rfl rfl (fun X hX => ?_) | refine RunD_g rfl rfl rfl rfl rfl rfl rfl (fun X Y hX hY => ?_) | refine RunD_gc rfl rfl rfl rfl rfl rfl (fun Y hY => ?_) | refine WD_c rfl (fun X Y hX hY => ?_)); (try dsimp only); simp (disch := first | omega | (simp; done) | fail) [wrap64c, if_pos, if_neg, opAnd, opOr, opXor, opDiff, opShr, opBit, hM, g_h0, c1, c2, e1, e2, e23, e24, e25, hlt, hNt, e8, e9, e10, g1, hlk, hs2, e11, e12, e13, g2, hli, hL, hgt, hne1, q_x, g_x, l_x, r_x, z_x, hk2, q_c, g_c, l_c, r_c, z_c, hq, hmd, hgr, hap]; (first | refine hX _ _ ?_ | refine hX ?_ | refine hY ?_); (try clear hX X); try clear hY Y)
                | (refine RunD_nil ?_; refine hK _ _ ?_; clear hK K)
                | (refine RunD_nil ?_)
                | (refine WD_skip ?_)
                | (refine WD_exit ?_)
                | (refine WD_ret ?_)
                | (refine hK.1 _ _ ?_; clear hK K)
                | (refine hK.2.1 _ _ ?_; clear hK K)
                | (refine hK.2 _ _ _ ?hne ?_; (case hne => simp; done); clear hK K)
                | (refine hK.2.2 _ _ _ ?hne ?_; (case hne => simp; done); clear hK K))
              obtain ⟨oz, iz, cz, csz, ownz, exz, esz, qz, bz, gz, lz, rz⟩ := hy3.open (by omega)
              rw [q_x] at qz
              cases qz
              have rz0 := rz 0 (by omega)
              simp only [Nat.add_zero] at rz0
              have gz := gz
              repeat (first
                | (refine WD_block (fun K hK => ?_))
                | (refine WD_seq (fun K hK => ?_))
                | (refine WD_region (fun K hK => ?_))
                | ((first | refine RunD_o rfl rfl rfl rfl rfl (fun X hX => ?_) | refine RunD_s rfl rfl rfl rfl (fun X hX => ?_) | refine RunD_g rfl rfl rfl rfl rfl rfl rfl (fun X Y hX hY => ?_) | refine RunD_gc rfl rfl rfl rfl rfl rfl (fun Y hY => ?_) | refine WD_c rfl (fun X Y hX hY => ?_)); (try dsimp only); simp (disch := first | omega | (simp; done) | fail) [wrap64c, if_pos, if_neg, opAnd, opOr, opXor, opDiff, opShr, opBit, hM, g_h0, c1, c2, e1, e2, e23, e24, e25, hlt, hNt, e8, e9, e10, g1, hlk, hs2, e11, e12, e13, g2, hli, hL, hgt, hne1, q_x, g_x, l_x, r_x, z_x, hk2, q_c, g_c, l_c, r_c, z_c, hq, hmd, hgr, gz, lz, rz, rz0]; (first | refine hX _ _ ?_ | refine hX ?_ | refine hY ?_); (try clear hX X); try clear hY Y)
                | (refine RunD_nil ?_; refine hK _ _ ?_; clear hK K)
                | (refine RunD_nil ?_)
                | (refine WD_skip ?_)
                | (refine WD_exit ?_)
                | (refine WD_ret ?_)
                | (refine hK.1 _ _ ?_; clear hK K)
                | (refine hK.2.1 _ _ ?_; clear hK K)
                | (refine hK.2 _ _ _ ?hne ?_; (case hne => simp; done); clear hK K)
                | (refine hK.2.2 _ _ _ ?hne ?_; (case hne => simp; done); clear hK K))
              refine hK.1 _ _ _ ?hm ?hf ⟨k + 1, u3, rfl, (by simp (disch := first | omega | (simp; done) | fail) [wrap64c, if_pos, if_neg, opAnd, opOr, opXor, opDiff, opShr, opBit, hM, g_h0, c1, c2, e1, e2, e23, e24, e25, hlt, hNt, e8, e9, e10, g1, hlk, hs2, e11, e12, e13, g2, hli, hL, hgt, hne1, q_x, g_x, l_x, r_x, z_x, hk2, q_c, g_c, l_c, r_c, z_c, hq, hmd, hgr, gz, lz, rz, rz0] <;> omega), (by simp [walkS, ← hs, ← hoe, ← hi0]), (by simp (disch := first | omega | (simp; done) | fail) [wrap64c, if_pos, if_neg, opAnd, opOr, opXor, opDiff, opShr, opBit, hM, g_h0, c1, c2, e1, e2, e23, e24, e25, hlt, hNt, e8, e9, e10, g1, hlk, hs2, e11, e12, e13, g2, hli, hL, hgt, hne1, q_x, g_x, l_x, r_x, z_x, hk2, q_c, g_c, l_c, r_c, z_c, hq, hmd, hgr, gz, lz, rz, rz0] <;> omega), (by first | omega | assumption | (simp (disch := first | omega | (simp; done) | fail) [wrap64c, if_pos, if_neg, opAnd, opOr, opXor, opDiff, opShr, opBit, hM, g_h0, c1, c2, e1, e2, e23, e24, e25, hlt, hNt, e8, e9, e10, g1, hlk, hs2, e11, e12, e13, g2, hli, hL, hgt, hne1, q_x, g_x, l_x, r_x, z_x, hk2, q_c, g_c, l_c, r_c, z_c, hq, hmd, hgr, gz, lz, rz, rz0] <;> omega)), ha3, (by simp only [walkS, ← hs, ← hoe, ← hi0]; rw [toN_snoc]; exact hu3)⟩
              (case hm => first | omega | (simp; omega))
              (case hf => simp [FrameL, hM, g_h0, c1, c2, e1, e2, e23, e24, e25, hlt, hNt, e8, e9, e10, g1, hlk, hs2, e11, e12, e13, g2, hli, hL, hgt, hne1, q_x, g_x, l_x, r_x, z_x, hk2, q_c, g_c, l_c, r_c, z_c, hq, hmd, hgr, gz, lz, rz, rz0, f1_1, f2_1])
            · have hpk : i0 = (itemsN o)[0] := by
                rw [hi0']
                unfold pickN
                rw [dif_neg hk2, List.getD_eq_getElem?_getD, List.getElem?_eq_getElem hl0]; rfl
              repeat (first
                | (refine WD_block (fun K hK => ?_))
                | (refine WD_seq (fun K hK => ?_))
                | (refine WD_region (fun K hK => ?_))
                | ((first | refine RunD_o rfl rfl rfl rfl rfl (fun X hX => ?_) | refine RunD_s rfl rfl rfl rfl (fun X hX => ?_) | refine RunD_g rfl rfl rfl rfl rfl rfl rfl (fun X Y hX hY => ?_) | refine RunD_gc rfl rfl rfl rfl rfl rfl (fun Y hY => ?_) | refine WD_c rfl (fun X Y hX hY => ?_)); (try dsimp only); simp (disch := first | omega | (simp; done) | fail) [wrap64c, if_pos, if_neg, opAnd, opOr, opXor, opDiff, opShr, opBit, hM, g_h0, c1, c2, e1, e2, e23, e24, e25, hlt, hNt, e8, e9, e10, g1, hlk, hs2, e11, e12, e13, g2, hli, hL, hgt, hne1, q_x, g_x, l_x, r_x, z_x, hk2]; (first | refine hX _ _ ?_ | refine hX ?_ | refine hY ?_); (try clear hX X); try clear hY Y)
                | (refine RunD_nil ?_; refine hK _ _ ?_; clear hK K)
                | (refine RunD_nil ?_)
                | (refine WD_skip ?_)
                | (refine WD_exit ?_)
                | (refine WD_ret ?_)
                | (refine hK.1 _ _ ?_; clear hK K)
                | (refine hK.2.1 _ _ ?_; clear hK K)
                | (refine hK.2 _ _ _ ?hne ?_; (case hne => simp; done); clear hK K)
                | (refine hK.2.2 _ _ _ ?hne ?_; (case hne => simp; done); clear hK K))
              have hgr : ∀ hh, (itemsN o)[0]'hh = i0 := fun _ => hpk.symm
              repeat (first
                | (refine WD_block (fun K hK => ?_))
                | (refine WD_seq (fun K hK => ?_))
                | (refine WD_region (fun K hK => ?_))
                | ((first | refine RunD_o rfl rfl rfl rfl rfl (fun X hX => ?_) | refine RunD_s rfl rfl rfl rfl (fun X hX => ?_) | refine RunD_g rfl rfl rfl rfl rfl rfl rfl (fun X Y hX hY => ?_) | refine RunD_gc rfl rfl rfl rfl rfl rfl (fun Y hY => ?_) | refine WD_c rfl (fun X Y hX hY => ?_)); (try dsimp only); simp (disch := first | omega | (simp; done) | fail) [wrap64c, if_pos, if_neg, opAnd, opOr, opXor, opDiff, opShr, opBit, hM, g_h0, c1, c2, e1, e2, e23, e24, e25, hlt, hNt, e8, e9, e10, g1, hlk, hs2, e11, e12, e13, g2, hli, hL, hgt, hne1, q_x, g_x, l_x, r_x, z_x, hk2, hgr]; (first | refine hX _ _ ?_ | refine hX ?_ | refine hY ?_); (try clear hX X); try clear hY Y)
                | (refine RunD_nil ?_; refine hK _ _ ?_; clear hK K)
                | (refine RunD_nil ?_)
                | (refine WD_skip ?_)
                | (refine WD_exit ?_)
                | (refine WD_ret ?_)
                | (refine hK.1 _ _ ?_; clear hK K)
                | (refine hK.2.1 _ _ ?_; clear hK K)
                | (refine hK.2 _ _ _ ?hne ?_; (case hne => simp; done); clear hK K)
                | (refine hK.2.2 _ _ _ ?hne ?_; (case hne => simp; done); clear hK K))
              obtain ⟨u3, h3, hap, hu3, ha3, hn5, hs3⟩ := appI2 hu2 (i0 : Int) (by omega) (by omega) (ha.trans hb) (Nat.le_refl _)
              obtain ⟨sm3, _⟩ := hs3 (fun q => h1.next ≤ q ∧ q < h'.next) (fun q hq => hq.2) ((ia_off hu (Nat.le_refl _)).mono fun q hq => hq.1)
              have hy3 := (((hy.own (by simp; omega)).read).same sm3).ints
              repeat (first
                | (refine WD_block (fun K hK => ?_))
                | (refine WD_seq (fun K hK => ?_))
                | (refine WD_region (fun K hK => ?_))
                | ((first | refine RunD_o rfl rfl rfl rfl rfl (fun X hX => ?_) | refine RunD_s rfl rfl rfl rfl (fun X hX => ?_) | refine RunD_g rfl rfl rfl rfl rfl rfl rfl (fun X Y hX hY => ?_) | refine RunD_gc rfl rfl rfl rfl rfl rfl (fun Y hY => ?_) | refine WD_c rfl (fun X Y hX hY => ?_)); (try dsimp only); simp (disch := first | omega | (simp; done) | fail) [wrap64c, if_pos, if_neg, opAnd, opOr, opXor, opDiff, opShr, opBit, hM, g_h0, c1, c2, e1, e2, e23, e24, e25, hlt, hNt, e8, e9, e10, g1, hlk, hs2, e11, e12, e13, g2, hli, hL, hgt, hne1, q_x, g_x, l_x, r_x, z_x, hk2, hgr, hap]; (first | refine hX _ _ ?_ | refine hX ?_ | refine hY ?_); (try clear hX X); try clear hY Y)
                | (refine RunD_nil ?_; refine hK _ _ ?_; clear hK K)
                | (refine RunD_nil ?_)
                | (refine WD_skip ?_)
                | (refine WD_exit ?_)
                | (refine WD_ret ?_)
                | (refine hK.1 _ _ ?_; clear hK K)
                | (refine hK.2.1 _ _ ?_; clear hK K)
                | (refine hK.2 _ _ _ ?hne ?_; (case hne => simp; done); clear hK K)
                | (refine hK.2.2 _ _ _ ?hne ?_; (case hne => simp; done); clear hK K))
              obtain ⟨oz, iz, cz, csz, ownz, exz, esz, qz, bz, gz, lz, rz⟩ := hy3.open (by omega)
              rw [q_x] at qz
              cases qz
              have rz0 := rz 0 (by omega)
              simp only [Nat.add_zero] at rz0
              have gz := gz
              repeat (first
                | (refine WD_block (fun K hK => ?_))
                | (refine WD_seq (fun K hK => ?_))
                | (refine WD_region (fun K hK => ?_))
                | ((first | refine RunD_o rfl rfl rfl rfl rfl (fun X hX => ?_) | refine RunD_s rfl rfl rfl rfl (fun X hX => ?_) | refine RunD_g rfl rfl rfl rfl rfl rfl rfl (fun X Y hX hY => ?_) | refine RunD_gc rfl rfl rfl rfl rfl rfl (fun Y hY => ?_) | refine WD_c rfl (fun X Y hX hY => ?_)); (try dsimp only); simp (disch := first | omega | (simp; done) | fail) [wrap64c, if_pos, if_neg, opAnd, opOr, opXor, opDiff, opShr, opBit, hM, g_h0, c1, c2, e1, e2, e23, e24, e25, hlt, hNt, e8, e9, e10, g1, hlk, hs2, e11, e12, e13, g2, hli, hL, hgt, hne1, q_x, g_x, l_x, r_x, z_x, hk2, hgr, gz, lz, rz, rz0]; (first | refine hX _ _ ?_ | refine hX ?_ | refine hY ?_); (try clear hX X); try clear hY Y)
                | (refine RunD_nil ?_; refine hK _ _ ?_; clear hK K)
                | (refine RunD_nil ?_)
                | (refine WD_skip ?_)
                | (refine WD_exit ?_)
                | (refine WD_ret ?_)
                | (refine hK.1 _ _ ?_; clear hK K)
                | (refine hK.2.1 _ _ ?_; clear hK K)
                | (refine hK.2 _ _ _ ?hne ?_; (case hne => simp; done); clear hK K)
                | (refine hK.2.2 _ _ _ ?hne ?_; (case hne => simp; done); clear hK K))
              refine hK.1 _ _ _ ?hm ?hf ⟨k + 1, u3, rfl, (by simp (disch := first | omega | (simp; done) | fail) [wrap64c, if_pos, if_neg, opAnd, opOr, opXor, opDiff, opShr, opBit, hM, g_h0, c1, c2, e1, e2, e23, e24, e25, hlt, hNt, e8, e9, e10, g1, hlk, hs2, e11, e12, e13, g2, hli, hL, hgt, hne1, q_x, g_x, l_x, r_x, z_x, hk2, hgr, gz, lz, rz, rz0] <;> omega), (by simp [walkS, ← hs, ← hoe, ← hi0]), (by simp (disch := first | omega | (simp; done) | fail) [wrap64c, if_pos, if_neg, opAnd, opOr, opXor, opDiff, opShr, opBit, hM, g_h0, c1, c2, e1, e2, e23, e24, e25, hlt, hNt, e8, e9, e10, g1, hlk, hs2, e11, e12, e13, g2, hli, hL, hgt, hne1, q_x, g_x, l_x, r_x, z_x, hk2, hgr, gz, lz, rz, rz0] <;> omega), (by first | omega | assumption | (simp (disch := first | omega | (simp; done) | fail) [wrap64c, if_pos, if_neg, opAnd, opOr, opXor, opDiff, opShr, opBit, hM, g_h0, c1, c2, e1, e2, e23, e24, e25, hlt, hNt, e8, e9, e10, g1, hlk, hs2, e11, e12, e13, g2, hli, hL, hgt, hne1, q_x, g_x, l_x, r_x, z_x, hk2, hgr, gz, lz, rz, rz0] <;> omega)), ha3, (by simp only [walkS, ← hs, ← hoe, ← hi0]; rw [toN_snoc]; exact hu3)⟩
              (case hm => first | omega | (simp; omega))
              (case hf => simp [FrameL, hM, g_h0, c1, c2, e1, e2, e23, e24, e25, hlt, hNt, e8, e9, e10, g1, hlk, hs2, e11, e12, e13, g2, hli, hL, hgt, hne1, q_x, g_x, l_x, r_x, z_x, hk2, hgr, gz, lz, rz, rz0, f1_1, f2_1])
        · have hke : k = n := by omega
          repeat (first
            | (refine WD_block (fun K hK => ?_))
            | (refine WD_seq (fun K hK => ?_))
            | (refine WD_region (fun K hK => ?_))
            | ((first | refine RunD_o rfl rfl rfl rfl rfl (fun X hX => ?_) | refine RunD_s rfl rfl rfl rfl (fun X hX => ?_) | refine RunD_g rfl rfl rfl rfl rfl rfl rfl (fun X Y hX hY => ?_) | refine RunD_gc rfl rfl rfl rfl rfl rfl (fun Y hY => ?_) | refine WD_c rfl (fun X Y hX hY => ?_)); (try dsimp only); simp (disch := first | omega | (simp; done) | fail) [wrap64c, if_pos, if_neg, opAnd, opOr, opXor, opDiff, opShr, opBit, hM, g_h0, c1, c2, e1, e2, e23, e24, e25, hlt, hNt, e8, e9, e10, g1, hlk]; (first | refine hX _ _ ?_ | refine hX ?_ | refine hY ?_); (try clear hX X); try clear hY Y)
            | (refine RunD_nil ?_; refine hK _ _ ?_; clear hK K)
            | (refine RunD_nil ?_)
            | (refine WD_skip ?_)
            | (refine WD_exit ?_)
            | (refine WD_ret ?_)
            | (refine hK.1 _ _ ?_; clear hK K)
            | (refine hK.2.1 _ _ ?_; clear hK K)
            | (refine hK.2 _ _ _ ?hne ?_; (case hne => simp; done); clear hK K)
            | (refine hK.2.2 _ _ _ ?hne ?_; (case hne => simp; done); clear hK K))
          refine done_ret rfl ⟨k_h0.trans ha, _, by simp [c1, cB]; rfl, ?_⟩
          rw [walkR, if_pos (by simp [c1, cB]), hXe, natsOf_toN, hN, Int.toNat_natCast]
          rw [hke] at hu
          exact (hu.own (by simp [walk_len]; omega)).sub fun o ho => ⟨by have := ho.1; omega, ho.2⟩
end Go.Proofs.Ytpehnhjgdgnnkaa
