/- Chips as one value: sizes, copies, comparisons, marks. -/
import Derived.Test.YtnjabaeajjhliaaA3
namespace Go.Proofs.Ytnjabaeajjhliaa
set_option linter.unusedSimpArgs false
set_option linter.unusedVariables false
open Go Go.Eng
attribute [local irreducible] WD RunD PreD Runs CallOK

/-- Chips, read. -/
def Chips (h : Hp) (v : Value) (L : List (List Int)) (A : List Int) : Prop := ∃ a b, v = .agg #[a, b] ∧ IRows h a L ∧ Ints h b A
theorem Chips.keep {h h' : Hp} (hk : Keeps h h') {v : Value} {L : List (List Int)} {A : List Int} (hv : Chips h v L A) : Chips h' v L A := by
  obtain ⟨a, b, e, h1, h2⟩ := hv
  exact ⟨a, b, e, h1.keep hk, h2.keep hk⟩
/-- Chips in objects of S, that may be written. -/
def ChipsO (S : Nat → Prop) (h : Hp) (v : Value) (L : List (List Int)) (A : List Int) : Prop :=
  ∃ a b, ∃ S1 S2 : Nat → Prop, v = .agg #[a, b] ∧ IRowsO S1 h a L ∧ IntsO S2 h b A ∧ (∀ x, S1 x → S x) ∧ (∀ x, S2 x → S x) ∧ ∀ x, S1 x → ¬ S2 x
theorem ChipsO.chips {S : Nat → Prop} {h : Hp} {v : Value} {L : List (List Int)} {A : List Int} (hv : ChipsO S h v L A) : Chips h v L A := by
  obtain ⟨a, b, S1, S2, e, h1, h2, _⟩ := hv
  exact ⟨a, b, e, h1.rows, h2.ints⟩
theorem ChipsO.same {S : Nat → Prop} {h h' : Hp} (hk : Same S h h') {v : Value} {L : List (List Int)} {A : List Int} (hv : ChipsO S h v L A) : ChipsO S h' v L A := by
  obtain ⟨a, b, S1, S2, e, h1, h2, h3, h4, h5⟩ := hv
  exact ⟨a, b, S1, S2, e, h1.same ⟨hk.1, fun o ho => hk.2 o (h3 o ho)⟩, h2.same ⟨hk.1, fun o ho => hk.2 o (h4 o ho)⟩, h3, h4, h5⟩
theorem ChipsO.keep {S : Nat → Prop} {h h' : Hp} (hk : Keeps h h') {v : Value} {L : List (List Int)} {A : List Int} (hv : ChipsO S h v L A) : ChipsO S h' v L A := hv.same (.of_keeps hk)
theorem ChipsO.sub {S T : Nat → Prop} (hst : ∀ x, S x → T x) {h : Hp} {v : Value} {L : List (List Int)} {A : List Int} (hv : ChipsO S h v L A) : ChipsO T h v L A := by
  obtain ⟨a, b, S1, S2, e, h1, h2, h3, h4, h5⟩ := hv
  exact ⟨a, b, S1, S2, e, h1, h2, fun x hx => hst x (h3 x hx), fun x hx => hst x (h4 x hx), h5⟩
theorem ChipsO.nil (S : Nat → Prop) (h : Hp) : ChipsO S h (.agg #[.slice none 0 0, .slice none 0 0]) [] [] :=
  ⟨_, _, fun _ => False, fun _ => False, rfl, .nil _ _, .nil _ _, fun _ h => h.elim, fun _ h => h.elim, fun _ h => h.elim⟩

/-- What chips leave of a budget. -/
def szC (k : Int) (L : List (List Int)) (A : List Int) : Int := if szSS k L < 0 then -1 else szS (szSS k L) A

theorem szL_le : ∀ (xs : List (List Int)) (k : Int), 0 ≤ k → szL k xs ≤ k ∧ -1 ≤ szL k xs
  | [], k, h => ⟨Int.le_refl _, by simp only [szL]; omega⟩
  | x :: l, k, h => by
    have := szS_le k x h
    by_cases hn : szS k x < 0
    · simp only [szL, if_pos hn]; omega
    · have := szL_le l (szS k x) (by omega)
      simp only [szL, if_neg hn]; omega
theorem szSS_le (k : Int) (xs : List (List Int)) (h : 0 ≤ k) : szSS k xs ≤ k ∧ -1 ≤ szSS k xs := by
  unfold szSS
  by_cases hn : k - (xs.length : Int) < 0
  · rw [if_pos hn]; omega
  · rw [if_neg hn]
    have := szL_le xs (k - xs.length) (by omega)
    omega
theorem szS_len {k : Int} {xs : List Int} (h : ¬ szS k xs < 0) : (xs.length : Int) ≤ k ∧ szS k xs = k - xs.length := by
  unfold szS at h ⊢
  by_cases hn : k - (xs.length : Int) < 0
  · rw [if_pos hn] at h; omega
  · rw [if_neg hn]; omega
theorem szL_tot : ∀ (xs : List (List Int)) (k : Int), 0 ≤ k → ¬ szL k xs < 0 → (tot xs : Int) ≤ k ∧ szL k xs = k - tot xs
  | [], k, _, _ => by simp [tot, szL]; omega
  | y :: l, k, h0, h => by
    by_cases hn : szS k y < 0
    · simp only [szL, if_pos hn] at h; omega
    · simp only [szL, if_neg hn] at h ⊢
      have := szS_le k y h0
      have h1 := szS_len hn
      have h2 := szL_tot l (szS k y) (by omega) h
      simp only [tot]; omega
theorem szSS_tot {k : Int} {xs : List (List Int)} (h : ¬ szSS k xs < 0) : (xs.length : Int) + tot xs ≤ k ∧ szSS k xs = k - xs.length - tot xs := by
  unfold szSS at h ⊢
  by_cases hn : k - (xs.length : Int) < 0
  · rw [if_pos hn] at h; omega
  · rw [if_neg hn] at h ⊢
    have := szL_tot xs (k - xs.length) (by omega) h
    omega
theorem mem_le_tot {L : List (List Int)} {x : List Int} (hx : x ∈ L) : x.length ≤ tot L := by
  obtain ⟨i, hi, rfl⟩ := List.getElem_of_mem hx
  exact len_le_tot L i hi
theorem szC_len {k : Int} {L : List (List Int)} {A : List Int} (h0 : 0 ≤ k) (h : ¬ szC k L A < 0) : (L.length : Int) + tot L + A.length ≤ k := by
  unfold szC at h
  by_cases hn : szSS k L < 0
  · rw [if_pos hn] at h; omega
  · rw [if_neg hn] at h
    have h1 := szSS_tot hn
    have h2 := szS_len h
    omega

theorem szChips_ok (h : Hp) (v : Value) (L : List (List Int)) (A : List Int) (k : Int) (hv : Chips h v L A) (h0 : 0 ≤ k) (h1 : k < 2 ^ 40) : CallOK Try.prog 54 #[v, .int .i64 k] h (.int .i64 (szC k L A)) h := by
  refine callY_P 18 _ [.tmp 4] Try.func54 rfl rfl rfl (by first | rfl | simp) ?_
  obtain ⟨a, b, rfl, hL, hA⟩ := hv
  have hz := szSS_le k L h0
  refine WD_first ?_
  try simp (disch := first | omega | (simp; done) | fail) [wrap64c, if_pos, if_neg]
  refine stopK_heap fun hx q_hx => ?_
  refine stopK_go ?_
  have g_hx : hx.get h.next = .cells [a, b] true true 1 := by simp [q_hx]
  have k_hx : Adds h hx := by rw [q_hx]; exact (by first | exact aK | exact kK)
  have n_hx : h.next < hx.next := by simp [q_hx]; try omega
  try simp (disch := first | omega | (simp; done) | fail) [wrap64c, if_pos, if_neg, g_hx]
  refine callG_c (by simp) (by simp) ?ha (szIntSS_ok _ _ L k (hL.keep k_hx.1) h0 h1) ?_
  (case ha => simp (disch := first | omega | (simp; done) | fail) [wrap64c, if_pos, if_neg, g_hx])
  by_cases hn : szSS k L < 0
  · try simp (disch := first | omega | (simp; done) | fail) [wrap64c, if_pos, if_neg, g_hx, hn]
    exact done_ret rfl (by simp [hn, szC, k_hx.1])
  · try simp (disch := first | omega | (simp; done) | fail) [wrap64c, if_pos, if_neg, g_hx, hn]
    refine callG_c (by simp) (by simp) ?ha (szIntS_ok _ _ A (szSS k L) (hA.keep k_hx.1) (by omega) (by omega)) ?_
    (case ha => simp (disch := first | omega | (simp; done) | fail) [wrap64c, if_pos, if_neg, g_hx, hn])
    by_cases hm : szS (szSS k L) A < 0
    · try simp (disch := first | omega | (simp; done) | fail) [wrap64c, if_pos, if_neg, g_hx, hn, hm]
      have := szS_le (szSS k L) A (by omega)
      exact done_ret rfl (by simp [hn, szC, k_hx.1]; omega)
    · try simp (disch := first | omega | (simp; done) | fail) [wrap64c, if_pos, if_neg, g_hx, hn, hm]
      exact done_ret rfl (by simp [hn, szC, k_hx.1])

theorem toChips_ok (h : Hp) (v : Value) (L : List (List Int)) (A : List Int) (hv : Chips h v L A) (hl : L.length < 2 ^ 40) (hr : ∀ x ∈ L, x.length < 2 ^ 40) (ha : A.length < 2 ^ 40) :
    ∃ v' h', CallOK Try.prog 56 #[v] h v' h' ∧ Adds h h' ∧ ChipsO (Btw h.next h'.next) h' v' L A := by
  refine callY_L (args := [v]) 13 _ [.cell 2 68] Try.func56 rfl rfl rfl ?_
  obtain ⟨a, b, rfl, hL, hA⟩ := hv
  refine WD_first ?_
  try simp (disch := first | omega | (simp; done) | fail) [wrap64c, if_pos, if_neg]
  refine stopK_go ?_
  refine WD_first ?_
  try simp (disch := first | omega | (simp; done) | fail) [wrap64c, if_pos, if_neg]
  refine stopK_heap fun h0 q_h0 => ?_
  refine stopK_go ?_
  have k0 : Adds h h0 := by rw [q_h0]; exact (by first | exact aK | exact kK)
  have n0 : h0.next = h.next + 3 := by simp [q_h0]
  have g0 : h0.get h.next = .cells [a, b] true true 1 := by simp [q_h0]
  have g1 : h0.get (h.next + 1) = .cells [.slice none 0 0, .slice none 0 0] true true 1 := by simp [q_h0]
  have g2 : h0.get (h.next + 2) = .cells [.slice none 0 0, .slice none 0 0] true true 1 := by simp [q_h0]
  try simp (disch := first | omega | (simp; done) | fail) [wrap64c, if_pos, if_neg, g0, g1, g2]
  obtain ⟨v1, h1, hc1, ha1, hi1⟩ := toIntSS_ok h0 a L (hL.keep k0.1) hl hr
  refine callG_c (by simp) (by simp) ?ha (hc1) ?_
  (case ha => simp (disch := first | omega | (simp; done) | fail) [wrap64c, if_pos, if_neg, g0, g1, g2])
  have nt1 := hi1.nt
  have cs1 := hi1.cs
  have g0 : h1.get h.next = .cells [a, b] true true 1 := by rw [ha1.1.2 _ (by omega)]; exact g0
  have g1 : h1.get (h.next + 1) = .cells [.slice none 0 0, .slice none 0 0] true true 1 := by rw [ha1.1.2 _ (by omega)]; exact g1
  have g2 : h1.get (h.next + 2) = .cells [.slice none 0 0, .slice none 0 0] true true 1 := by rw [ha1.1.2 _ (by omega)]; exact g2
  try simp (disch := first | omega | (simp; done) | fail) [wrap64c, if_pos, if_neg, g0, g1, g2, nt1, cs1, putCells]
  first | refine WY_heap fun h2 q_h2 => ?_ | refine callG_heap fun h2 q_h2 => ?_ | refine callP_heap fun h2 q_h2 => ?_ | refine RY_heap fun h2 q_h2 => ?_ | refine PY_heap fun h2 q_h2 => ?_ | refine doneY_heap fun h2 q_h2 => ?_ | refine loopK_heap fun h2 q_h2 => ?_ | refine thenY_heap fun h2 q_h2 => ?_ | refine thenM_heap fun h2 q_h2 => ?_
  have n2 : h2.next = h1.next := by simp [q_h2]
  have n1 := ha1.1.1
  have ka := k0.trans ha1
  have k2 : Adds h h2 := by rw [q_h2]; exact (by first | exact aK | exact kK)
  have g0 : h2.get h.next = .cells [a, b] true true 1 := by simp [q_h2, g0]
  have g1 : h2.get (h.next + 1) = .cells [.slice none 0 0, .slice none 0 0] true true 1 := by simp [q_h2, g1]
  have g2 : h2.get (h.next + 2) = .cells [v1, .slice none 0 0] true true 1 := by simp [q_h2]
  have hi2 : IRowsO (Btw h0.next h1.next) h2 v1 L := by rw [q_h2]; exact hi1.same (Same.put (Same.refl _ _) (by unfold Btw; omega) _)
  obtain ⟨v3, h3, hc3, ha3, hi3⟩ := toIntS_ok h2 b A (hA.keep k2.1) ha
  refine callG_c (by simp) (by simp) ?ha (hc3) ?_
  (case ha => simp (disch := first | omega | (simp; done) | fail) [wrap64c, if_pos, if_neg, g0, g1, g2, nt1, cs1])
  have nt3 := hi3.nt
  have cs3 := hi3.cs
  have g1 : h3.get (h.next + 1) = .cells [.slice none 0 0, .slice none 0 0] true true 1 := by rw [ha3.1.2 _ (by omega)]; exact g1
  have g2 : h3.get (h.next + 2) = .cells [v1, .slice none 0 0] true true 1 := by rw [ha3.1.2 _ (by omega)]; exact g2
  try simp (disch := first | omega | (simp; done) | fail) [wrap64c, if_pos, if_neg, g0, g1, g2, nt1, cs1, nt3, cs3, putCells]
  have n3 := ha3.1.1
  have kb := k2.trans ha3
  refine done_ret (by simp [putCells, g1, g2]; rfl) ⟨(by first | exact aK | exact kK), v1, v3, Btw h0.next h1.next, Btw h2.next h3.next, by simp, (hi2.keep ha3.1).same (Same.put (Same.put (Same.refl _ _) (by unfold Btw; omega) _) (by unfold Btw; omega) _), hi3.same (Same.put (Same.put (Same.refl _ _) (by unfold Btw; omega) _) (by unfold Btw; omega) _), ?_, ?_, ?_⟩ <;> intro x <;> simp [Btw] <;> omega

theorem eqChips_ok (h : Hp) (v w : Value) (L M : List (List Int)) (A B : List Int) (hv : Chips h v L A) (hw : Chips h w M B) : CallOK Try.prog 58 #[v, w] h (.bool (decide (L = M ∧ A = B))) h := by
  refine callY_P 17 _ [.tmp 4] Try.func58 rfl rfl rfl (by first | rfl | simp) ?_
  obtain ⟨a, b, rfl, hL, hA⟩ := hv
  obtain ⟨c, d, rfl, hM, hB⟩ := hw
  refine WD_first ?_
  try simp (disch := first | omega | (simp; done) | fail) [wrap64c, if_pos, if_neg]
  refine stopK_heap fun h0 q_h0 => ?_
  refine stopK_go ?_
  have k0 : Adds h h0 := by rw [q_h0]; exact (by first | exact aK | exact kK)
  have g0 : h0.get h.next = .cells [a, b] true true 1 := by simp [q_h0]
  have g1 : h0.get (h.next + 1) = .cells [c, d] true true 1 := by simp [q_h0]
  try simp (disch := first | omega | (simp; done) | fail) [wrap64c, if_pos, if_neg, g0, g1]
  refine callG_c (by simp) (by simp) ?ha (eqIntSS_ok _ _ _ L M (hL.keep k0.1) (hM.keep k0.1)) ?_
  (case ha => simp (disch := first | omega | (simp; done) | fail) [wrap64c, if_pos, if_neg, g0, g1])
  by_cases hn : L = M
  · try simp (disch := first | omega | (simp; done) | fail) [wrap64c, if_pos, if_neg, g0, g1, hn]
    refine callG_c (by simp) (by simp) ?ha (eqIntS_ok _ _ _ A B (hA.keep k0.1) (hB.keep k0.1)) ?_
    (case ha => simp (disch := first | omega | (simp; done) | fail) [wrap64c, if_pos, if_neg, g0, g1])
    by_cases hm : A = B
    · try simp (disch := first | omega | (simp; done) | fail) [wrap64c, if_pos, if_neg, g0, g1, hn, hm]
      exact done_ret rfl (by simp [hn, hm, k0.1])
    · try simp (disch := first | omega | (simp; done) | fail) [wrap64c, if_pos, if_neg, g0, g1, hn, hm]
      exact done_ret rfl (by simp [hn, hm, k0.1])
  · try simp (disch := first | omega | (simp; done) | fail) [wrap64c, if_pos, if_neg, g0, g1, hn]
    exact done_ret rfl (by simp [hn, k0.1])

theorem markChips_ok (S : Nat → Prop) (h : Hp) (v : Value) (L : List (List Int)) (A : List Int) (k : Int) (hv : ChipsO S h v L A) (h0 : 0 ≤ k) (h1 : k < 2 ^ 48) (hl : L.length < 2 ^ 48) (ht : tot L < 2 ^ 48) (ha : A.length < 2 ^ 48) :
    ∃ v' h', CallOK Try.prog 61 #[v, .int .i64 k] h v' h' ∧ v' = .int .i64 (k + tot L + A.length) ∧ Upd S h h' ∧ ChipsO S h' v (mkR k L) (mkL (k + tot L) A.length) := by
  refine callY_L (args := [v, .int .i64 k]) 14 _ [.tmp 4] Try.func61 rfl rfl rfl ?_
  obtain ⟨a, b, S1, S2, rfl, hL, hA, c1, c2, c3⟩ := hv
  refine WD_first ?_
  try simp (disch := first | omega | (simp; done) | fail) [wrap64c, if_pos, if_neg]
  refine stopK_heap fun hx q_hx => ?_
  refine stopK_go ?_
  have g_hx : hx.get h.next = .cells [a, b] true true 1 := by simp [q_hx]
  have k_hx : Adds h hx := by rw [q_hx]; exact (by first | exact aK | exact kK)
  have n_hx : h.next < hx.next := by simp [q_hx]; try omega
  try simp (disch := first | omega | (simp; done) | fail) [wrap64c, if_pos, if_neg, g_hx]
  have hL1 := hL.cut
  have hA1 := hA.cut
  obtain ⟨v1, h2, hc1, rfl, hn1, hu1, hi1⟩ := markIntSS_ok (fun x => S1 x ∧ x < h.next) hx a L k (hL1.keep k_hx.1) h0 (by omega) (by omega) (by omega)
  refine callG_c (by simp) (by simp) ?ha (hc1) ?_
  (case ha => simp (disch := first | omega | (simp; done) | fail) [wrap64c, if_pos, if_neg, g_hx])
  have g2 : h2.get h.next = .cells [a, b] true true 1 := by rw [hu1.2 _ n_hx (by omega)]; exact g_hx
  try simp (disch := first | omega | (simp; done) | fail) [wrap64c, if_pos, if_neg, g_hx, g2]
  have hA2 : IntsO (fun x => S2 x ∧ x < h.next) h2 b A := (hA1.keep k_hx.1).same (hu1.same fun x hx hx' => c3 x hx'.1 hx.1)
  obtain ⟨v3, h3, hc3, rfl, hn3, hu3, hi3⟩ := markIntS_ok (fun x => S2 x ∧ x < h.next) h2 b A (k + tot L) hA2 (by omega) (by omega) (by omega)
  refine callG_c (by simp) (by simp) ?ha (hc3) ?_
  (case ha => simp (disch := first | omega | (simp; done) | fail) [wrap64c, if_pos, if_neg, g_hx, g2])
  try simp (disch := first | omega | (simp; done) | fail) [wrap64c, if_pos, if_neg, g_hx, g2]
  have hu : Upd S h h3 := ((Upd.of_keeps k_hx.1).trans (hu1.mono fun x _ hx => c1 x hx.1)).trans (hu3.mono fun x _ hx => c2 x hx.1)
  exact done_ret rfl ⟨rfl, hu, a, b, _, _, rfl, hi1.same (hu3.same fun x hx hx' => c3 x hx.1 hx'.1), hi3, fun x hx => c1 x hx.1, fun x hx => c2 x hx.1, fun x hx hx' => c3 x hx.1 hx'.1⟩

end Go.Proofs.Ytnjabaeajjhliaa
