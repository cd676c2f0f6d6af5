/- CountBest by the reference: the table of sets. -/
import Derived.Test.YtnjabaeajjhliaaT25
namespace Go.Proofs.Ytnjabaeajjhliaa
set_option linter.unusedSimpArgs false
set_option linter.unusedVariables false
set_option maxHeartbeats 4000000
open Go Go.Eng
attribute [local irreducible] WD RunD PreD Runs CallOK

/-- The ways by the items below i. -/
def partS (M : Nat → Bool) (n : Nat) (c : Nat → Nat → Int) (lim : Int) (k s : Nat) : Nat → Nat
  | 0 => 0
  | i + 1 => partS M n c lim k s i + (if s.testBit i = false ∧ M (nOr s (bit i)) = true then (if c s i ≤ lim then waysF M n c lim k (nOr s (bit i)) else 0) else 0)
theorem ways_part (M : Nat → Bool) {n : Nat} (hn : n ≤ 7) (c : Nat → Nat → Int) (lim : Int) (k s : Nat) : waysF M n c lim (k + 1) s = partS M n c lim k s n := by
  have key : ∀ m, m ≤ n → (((List.range m).filter fun i => (outerN M n s).testBit i).map fun i => if c s i ≤ lim then waysF M n c lim k (nOr s (bit i)) else 0).sum = partS M n c lim k s m := by
    intro m
    induction m with
    | zero => intro _; rfl
    | succ m ih =>
      intro hm
      rw [List.range_succ, List.filter_append, List.map_append, List.sum_append, ih (by omega), partS]
      congr 1
      have hb := outerN_bit M n s m
      rw [decide_eq_true (show m < n by omega), Bool.true_and] at hb
      by_cases hc : s.testBit m = false ∧ M (nOr s (bit m)) = true
      · rw [if_pos hc]
        have : (outerN M n s).testBit m = true := by rw [hb, hc.1, hc.2]; rfl
        simp [this]
      · rw [if_neg hc]
        have : (outerN M n s).testBit m = false := by
          rw [hb]
          cases h1 : s.testBit m <;> cases h2 : M (nOr s (bit m)) <;> simp_all
        simp [this]
  have ext : ∀ d, (List.range (n + d)).filter (fun i => (outerN M n s).testBit i) = (List.range n).filter fun i => (outerN M n s).testBit i := by
    intro d
    induction d with
    | zero => rfl
    | succ d ih =>
      rw [← Nat.add_assoc, List.range_succ, List.filter_append, ih]
      have : (outerN M n s).testBit (n + d) = false := by rw [outerN_bit, decide_eq_false (by omega), Bool.false_and]
      simp [this]
  rw [waysF, itemsN]
  have := ext (7 - n)
  rw [show n + (7 - n) = 7 by omega] at this
  rw [this]
  exact key n (Nat.le_refl _)
theorem wrap_add (x y : Int) : IntKind.wrap .i64 (IntKind.wrap .i64 x + IntKind.wrap .i64 y) = IntKind.wrap .i64 (x + y) := by
  rw [wrap_eq (IntKind.wrap .i64 x + IntKind.wrap .i64 y), wrap_eq x, wrap_eq y, wrap_eq (x + y)]
  split <;> split <;> split <;> split <;> omega
theorem least2_ok (h : Hp) (a b : Int) : CallOK Try.prog 136 #[.int .i64 a, .int .i64 b] h (.int .i64 (if a < b then a else b)) h := by
  refine callY_P 10 _ [.tmp 4] Try.func136 rfl rfl rfl (by first | rfl | simp) ?_
  by_cases hc : a < b
  · try simp (disch := first | omega | (simp; done) | fail) [wrap64c, if_pos, if_neg, opAnd, opOr, opXor, opDiff, opShr, opBit, hc]
    exact done_ret rfl (by simp [hc])
  · try simp (disch := first | omega | (simp; done) | fail) [wrap64c, if_pos, if_neg, opAnd, opOr, opXor, opDiff, opShr, opBit, hc]
    exact done_ret rfl (by simp [hc])
theorem zcells_2 (n : Nat) : zcells (.agg #[.int .i64 0, .int .i64 0]) n = List.replicate (n * 2) (.int .i64 0) := by
  unfold zcells
  apply List.ext_getElem
  · simp [Value.cells]
  · intro i h1 h2
    simp [Value.cells] at h1 ⊢
    have : i % 2 < 2 := Nat.mod_lt _ (by omega)
    rcases Nat.lt_or_ge (i % 2) 1 with h | h
    · simp [show i % 2 = 0 by omega]
    · simp [show i % 2 = 1 by omega]
theorem good_first {n : Nat} {xs : List Nat} (g : SpGood n xs) : ∃ h : 0 < xs.length, xs[0] = 0 := by
  have hm := g.zero
  obtain ⟨k, hk, e⟩ := List.getElem_of_mem hm
  refine ⟨by omega, ?_⟩
  by_cases h0 : k = 0
  · subst h0; exact e
  · have := List.pairwise_iff_getElem.1 g.srt 0 k (by omega) hk (by omega)
    omega
theorem good_last {n : Nat} {xs : List Nat} (g : SpGood n xs) : ∃ h : xs.length - 1 < xs.length, xs[xs.length - 1] = bit n - 1 := by
  obtain ⟨k, hk, e⟩ := List.getElem_of_mem g.full
  refine ⟨by omega, ?_⟩
  have hl := g.lt _ (List.getElem_mem (show xs.length - 1 < xs.length by omega))
  by_cases h0 : k = xs.length - 1
  · subst h0; exact e
  · have := List.pairwise_iff_getElem.1 g.srt k (xs.length - 1) hk (by omega) (by omega)
    omega

/-- The table from place q on. -/
def Tab (M : Nat → Bool) (n : Nat) (c : Nat → Nat → Int) (lim : Int) (xs : List Nat) (q : Nat) (cs : List Value) : Prop :=
  cs.length = xs.length * 2 ∧ ∀ i (hi : i < xs.length), q ≤ i → (∃ a : Int, cs[i * 2]? = some (.int .i64 a)) ∧ cs[i * 2 + 1]? = some (.int .i64 (IntKind.wrap .i64 (waysF M n c lim (n - pcN xs[i]) xs[i] : Int)))
theorem Tab.put {M : Nat → Bool} {n : Nat} {c : Nat → Nat → Int} {lim : Int} {xs : List Nat} {q : Nat} {cs : List Value} (ht : Tab M n c lim xs (q + 1) cs) (hq : q < xs.length) (a w : Int) (hw : w = IntKind.wrap .i64 (waysF M n c lim (n - pcN xs[q]) xs[q] : Int)) :
    Tab M n c lim xs q (putCells cs (q * 2) [.int .i64 a, .int .i64 w]) := by
  have hl : (cs.take (q * 2)).length = q * 2 := by rw [List.length_take]; have := ht.1; omega
  refine ⟨by rw [putCells_length (by simp; have := ht.1; omega)]; exact ht.1, fun i hi hqi => ?_⟩
  by_cases e : i = q
  · subst e
    refine ⟨⟨a, ?_⟩, ?_⟩
    · unfold putCells; rw [List.getElem?_append_right (by omega), hl]; simp
    · unfold putCells; rw [List.getElem?_append_right (by omega), hl, show i * 2 + 1 - i * 2 = 1 by omega, ← hw]; simp
  · have := ht.2 i hi (by omega)
    have hp : ∀ x, q * 2 + 2 ≤ x → (putCells cs (q * 2) [.int .i64 a, .int .i64 w])[x]? = cs[x]? := fun x hx => by
      unfold putCells
      rw [List.getElem?_append_right (by omega), hl, List.getElem?_append_right (by simp; omega), List.getElem?_drop]
      congr 1; simp; omega
    rw [hp _ (by omega), hp _ (by omega)]
    exact this
end Go.Proofs.Ytnjabaeajjhliaa
