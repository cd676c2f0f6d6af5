/- Spaces as one value: sizes, copies, comparisons, marks. -/
import Derived.Test.YtnjabaeajjhliaaA3
namespace Go.Proofs.Ytnjabaeajjhliaa
set_option linter.unusedSimpArgs false
set_option linter.unusedVariables false
set_option maxHeartbeats 4000000
open Go Go.Eng
attribute [local irreducible] WD RunD PreD Runs CallOK

/-- A space, read: its number of items and its sets. -/
def Space (h : Hp) (v : Value) (N : Int) (X : List Int) : Prop := ∃ b, v = .agg #[.int .i64 N, b] ∧ Ints h b X
theorem Space.keep {h h' : Hp} (hk : Keeps h h') {v : Value} {N : Int} {X : List Int} (hv : Space h v N X) : Space h' v N X := by
  obtain ⟨b, e, h1⟩ := hv
  exact ⟨b, e, h1.keep hk⟩
/-- A space in objects of S, that may be written. -/
def SpaceO (S : Nat → Prop) (h : Hp) (v : Value) (N : Int) (X : List Int) : Prop := ∃ b, v = .agg #[.int .i64 N, b] ∧ IntsO S h b X
theorem SpaceO.space {S : Nat → Prop} {h : Hp} {v : Value} {N : Int} {X : List Int} (hv : SpaceO S h v N X) : Space h v N X := by
  obtain ⟨b, e, h1⟩ := hv
  exact ⟨b, e, h1.ints⟩
theorem SpaceO.same {S : Nat → Prop} {h h' : Hp} (hk : Same S h h') {v : Value} {N : Int} {X : List Int} (hv : SpaceO S h v N X) : SpaceO S h' v N X := by
  obtain ⟨b, e, h1⟩ := hv
  exact ⟨b, e, h1.same hk⟩
theorem SpaceO.keep {S : Nat → Prop} {h h' : Hp} (hk : Keeps h h') {v : Value} {N : Int} {X : List Int} (hv : SpaceO S h v N X) : SpaceO S h' v N X := hv.same (.of_keeps hk)
theorem SpaceO.sub {S T : Nat → Prop} (hst : ∀ x, S x → T x) {h : Hp} {v : Value} {N : Int} {X : List Int} (hv : SpaceO S h v N X) : SpaceO T h v N X := by
  obtain ⟨b, e, h1⟩ := hv
  exact ⟨b, e, h1.sub hst⟩
theorem SpaceO.nil (S : Nat → Prop) (h : Hp) : SpaceO S h (.agg #[.int .i64 0, .slice none 0 0]) 0 [] := ⟨_, rfl, .nil _ _⟩

theorem szS_len {k : Int} {xs : List Int} (h : ¬ szS k xs < 0) : (xs.length : Int) ≤ k ∧ szS k xs = k - xs.length := by
  unfold szS at h ⊢
  by_cases hn : k - (xs.length : Int) < 0
  · rw [if_pos hn] at h; omega
  · rw [if_neg hn]; omega

theorem szSpace_ok (h : Hp) (v : Value) (N : Int) (X : List Int) (k : Int) (hv : Space h v N X) (h0 : 0 ≤ k) (h1 : k < 2 ^ 40) : CallOK Try.prog 27 #[v, .int .i64 k] h (.int .i64 (szS k X)) h := by
  refine callY_P 12 _ [.tmp 4] Try.func27 rfl rfl rfl (by first | rfl | simp) ?_
  obtain ⟨b, rfl, hX⟩ := hv
  refine WD_first ?_
  try simp (disch := first | omega | (simp; done) | fail) [wrap64c, if_pos, if_neg]
  refine stopK_heap fun hx q_hx => ?_
  refine stopK_go ?_
  have g_hx : hx.get h.next = .cells [.int .i64 N, b] true true 1 := by simp [q_hx]
  have k_hx : Adds h hx := by rw [q_hx]; exact (by first | exact aK | exact kK)
  have n_hx : h.next < hx.next := by simp [q_hx]; try omega
  try simp (disch := first | omega | (simp; done) | fail) [wrap64c, if_pos, if_neg, g_hx]
  refine callG_c (by simp) (by simp) ?ha (szIntS_ok _ _ X k (hX.keep k_hx.1) h0 h1) ?_
  (case ha => simp (disch := first | omega | (simp; done) | fail) [wrap64c, if_pos, if_neg, g_hx])
  have hz := szS_le k X h0
  by_cases hm : szS k X < 0
  · try simp (disch := first | omega | (simp; done) | fail) [wrap64c, if_pos, if_neg, g_hx, hm]
    exact done_ret rfl (by simp [k_hx.1]; omega)
  · try simp (disch := first | omega | (simp; done) | fail) [wrap64c, if_pos, if_neg, g_hx, hm]
    exact done_ret rfl (by simp [k_hx.1])

theorem toSpace_ok (h : Hp) (v : Value) (N : Int) (X : List Int) (hv : Space h v N X) (ha : X.length < 2 ^ 40) :
    ∃ v' h', CallOK Try.prog 29 #[v] h v' h' ∧ Adds h h' ∧ SpaceO (Btw h.next h'.next) h' v' N X := by
  refine callY_L (args := [v]) 12 _ [.cell 2 32] Try.func29 rfl rfl rfl ?_
  obtain ⟨b, rfl, hX⟩ := hv
  refine WD_first ?_
  try simp (disch := first | omega | (simp; done) | fail) [wrap64c, if_pos, if_neg]
  refine stopK_go ?_
  refine WD_first ?_
  try simp (disch := first | omega | (simp; done) | fail) [wrap64c, if_pos, if_neg]
  refine stopK_heap fun h0 q_h0 => ?_
  refine stopK_go ?_
  have k0 : Adds h h0 := by rw [q_h0]; exact (by first | exact aK | exact kK)
  have n0 : h0.next = h.next + 3 := by simp [q_h0]
  have g0 : h0.get h.next = .cells [.int .i64 N, b] true true 1 := by simp [q_h0]
  have g1 : h0.get (h.next + 1) = .cells [.int .i64 0, .slice none 0 0] true true 1 := by simp [q_h0]
  have g2 : h0.get (h.next + 2) = .cells [.int .i64 0, .slice none 0 0] true true 1 := by simp [q_h0]
  try simp (disch := first | omega | (simp; done) | fail) [wrap64c, if_pos, if_neg, g0, g1, g2, putCells]
  first | refine WY_heap fun h2 q_h2 => ?_ | refine callG_heap fun h2 q_h2 => ?_ | refine callP_heap fun h2 q_h2 => ?_ | refine RY_heap fun h2 q_h2 => ?_ | refine PY_heap fun h2 q_h2 => ?_ | refine doneY_heap fun h2 q_h2 => ?_ | refine loopK_heap fun h2 q_h2 => ?_ | refine thenY_heap fun h2 q_h2 => ?_ | refine thenM_heap fun h2 q_h2 => ?_
  have k2 : Adds h h2 := by rw [q_h2]; have := k0; exact (by first | exact aK | exact kK)
  have n2 : h2.next = h0.next := by simp [q_h2]
  have g0 : h2.get h.next = .cells [.int .i64 N, b] true true 1 := by simp [q_h2, g0]
  have g1 : h2.get (h.next + 1) = .cells [.int .i64 0, .slice none 0 0] true true 1 := by simp [q_h2, g1]
  have g2 : h2.get (h.next + 2) = .cells [.int .i64 N, .slice none 0 0] true true 1 := by simp [q_h2]
  try simp (disch := first | omega | (simp; done) | fail) [wrap64c, if_pos, if_neg, g0, g1, g2, putCells]
  obtain ⟨v3, h3, hc3, ha3, hi3⟩ := toIntS_ok h2 b X (hX.keep k2.1) ha
  refine callG_c (by simp) (by simp) ?ha (hc3) ?_
  (case ha => simp (disch := first | omega | (simp; done) | fail) [wrap64c, if_pos, if_neg, g0, g1, g2])
  have nt3 := hi3.nt
  have cs3 := hi3.cs
  have g1 : h3.get (h.next + 1) = .cells [.int .i64 0, .slice none 0 0] true true 1 := by rw [ha3.1.2 _ (by omega)]; exact g1
  have g2 : h3.get (h.next + 2) = .cells [.int .i64 N, .slice none 0 0] true true 1 := by rw [ha3.1.2 _ (by omega)]; exact g2
  try simp (disch := first | omega | (simp; done) | fail) [wrap64c, if_pos, if_neg, g0, g1, g2, nt3, cs3, putCells]
  have n3 := ha3.1.1
  have kb := k2.trans ha3
  refine done_ret (by simp [putCells, g1, g2]; rfl) ⟨(by first | exact aK | exact kK), v3, by simp, (hi3.same (Same.put (Same.put (Same.refl _ _) (by unfold Btw; omega) _) (by unfold Btw; omega) _)).sub fun x hx => by unfold Btw at *; simp; omega⟩

theorem eqSpace_ok (h : Hp) (v w : Value) (N M : Int) (X Y : List Int) (hv : Space h v N X) (hw : Space h w M Y) : CallOK Try.prog 24 #[v, w] h (.bool (decide (N = M ∧ X = Y))) h := by
  refine callY_P 16 _ [.tmp 4] Try.func24 rfl rfl rfl (by first | rfl | simp) ?_
  obtain ⟨b, rfl, hX⟩ := hv
  obtain ⟨d, rfl, hY⟩ := hw
  refine WD_first ?_
  try simp (disch := first | omega | (simp; done) | fail) [wrap64c, if_pos, if_neg]
  refine stopK_heap fun h0 q_h0 => ?_
  refine stopK_go ?_
  have k0 : Adds h h0 := by rw [q_h0]; exact (by first | exact aK | exact kK)
  have g0 : h0.get h.next = .cells [.int .i64 N, b] true true 1 := by simp [q_h0]
  have g1 : h0.get (h.next + 1) = .cells [.int .i64 M, d] true true 1 := by simp [q_h0]
  by_cases hn : N = M
  · have hnb : (N != M) = false := by simp [hn]
    try simp (disch := first | omega | (simp; done) | fail) [wrap64c, if_pos, if_neg, g0, g1, hnb]
    refine callG_c (by simp) (by simp) ?ha (eqIntS_ok _ _ _ X Y (hX.keep k0.1) (hY.keep k0.1)) ?_
    (case ha => simp (disch := first | omega | (simp; done) | fail) [wrap64c, if_pos, if_neg, g0, g1, hnb])
    by_cases hm : X = Y
    · try simp (disch := first | omega | (simp; done) | fail) [wrap64c, if_pos, if_neg, g0, g1, hnb, hm]
      exact done_ret rfl (by simp [hn, hm, k0.1])
    · try simp (disch := first | omega | (simp; done) | fail) [wrap64c, if_pos, if_neg, g0, g1, hnb, hm]
      exact done_ret rfl (by simp [hn, hm, k0.1])
  · have hnb : (N != M) = true := by simp [hn]
    try simp (disch := first | omega | (simp; done) | fail) [wrap64c, if_pos, if_neg, g0, g1, hnb]
    exact done_ret rfl (by simp [hn, k0.1])

theorem markSpace_ok (S : Nat → Prop) (h : Hp) (v : Value) (N : Int) (X : List Int) (k : Int) (hv : SpaceO S h v N X) (h0 : 0 ≤ k) (h1 : k < 2 ^ 48) (ha : X.length < 2 ^ 48) :
    ∃ v' h', CallOK Try.prog 25 #[v, .int .i64 k] h v' h' ∧ v' = .int .i64 (k + X.length) ∧ Upd S h h' ∧ SpaceO S h' v N (mkL k X.length) := by
  refine callY_L (args := [v, .int .i64 k]) 10 _ [.tmp 4] Try.func25 rfl rfl rfl ?_
  obtain ⟨b, rfl, hX⟩ := hv
  refine WD_first ?_
  try simp (disch := first | omega | (simp; done) | fail) [wrap64c, if_pos, if_neg]
  refine stopK_heap fun hx q_hx => ?_
  refine stopK_go ?_
  have g_hx : hx.get h.next = .cells [.int .i64 N, b] true true 1 := by simp [q_hx]
  have k_hx : Adds h hx := by rw [q_hx]; exact (by first | exact aK | exact kK)
  have n_hx : h.next < hx.next := by simp [q_hx]; try omega
  try simp (disch := first | omega | (simp; done) | fail) [wrap64c, if_pos, if_neg, g_hx]
  obtain ⟨v3, h3, hc3, rfl, hn3, hu3, hi3⟩ := markIntS_ok (fun x => S x ∧ x < h.next) hx b X k (hX.cut.keep k_hx.1) h0 (by omega) (by omega)
  refine callG_c (by simp) (by simp) ?ha (hc3) ?_
  (case ha => simp (disch := first | omega | (simp; done) | fail) [wrap64c, if_pos, if_neg, g_hx])
  try simp (disch := first | omega | (simp; done) | fail) [wrap64c, if_pos, if_neg, g_hx]
  exact done_ret rfl ⟨rfl, (Upd.of_keeps k_hx.1).trans (hu3.mono fun x _ hx => hx.1), b, rfl, hi3.sub fun x hx => hx.1⟩

theorem heldSpace_ok (h : Hp) (v : Value) (N : Int) (n : Nat) (k : Int) (hv : Space h v N (mkL k n)) (h0 : 0 ≤ k) (h1 : k < 2 ^ 48) (ha : n < 2 ^ 48) :
    CallOK Try.prog 26 #[v, .int .i64 k] h (.int .i64 (k + n)) h := by
  refine callY_P 12 _ [.tmp 4] Try.func26 rfl rfl rfl (by first | rfl | simp) ?_
  obtain ⟨b, rfl, hX⟩ := hv
  refine WD_first ?_
  try simp (disch := first | omega | (simp; done) | fail) [wrap64c, if_pos, if_neg]
  refine stopK_heap fun hx q_hx => ?_
  refine stopK_go ?_
  have g_hx : hx.get h.next = .cells [.int .i64 N, b] true true 1 := by simp [q_hx]
  have k_hx : Adds h hx := by rw [q_hx]; exact (by first | exact aK | exact kK)
  have n_hx : h.next < hx.next := by simp [q_hx]; try omega
  try simp (disch := first | omega | (simp; done) | fail) [wrap64c, if_pos, if_neg, g_hx]
  refine callG_c (by simp) (by simp) ?ha (heldIntS_ok hx b n k (hX.keep k_hx.1) (by omega) (by omega) (by omega)) ?_
  (case ha => simp (disch := first | omega | (simp; done) | fail) [wrap64c, if_pos, if_neg, g_hx])
  try simp (disch := first | omega | (simp; done) | fail) [wrap64c, if_pos, if_neg, g_hx, (show ¬ k + (n : Int) < 0 by omega)]
  exact done_ret rfl (by simp [k_hx.1])
end Go.Proofs.Ytnjabaeajjhliaa
