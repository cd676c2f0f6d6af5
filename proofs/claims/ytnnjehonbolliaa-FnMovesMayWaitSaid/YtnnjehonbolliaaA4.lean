/- Chips as one value: sizes, copies, comparisons, marks. -/
import Derived.Test.YtnnjehonbolliaaA3
namespace Go.Proofs.Ytnnjehonbolliaa
set_option linter.unusedSimpArgs false
set_option linter.unusedVariables false
open Go Go.Eng
attribute [local irreducible] WD RunD PreD Runs CallOK

/-- Chips, read. -/
def Chips (h : Hp) (v : Value) (L : List (List Int)) (A : List Int) : Prop := ∃ a b, v = .agg #[a, b] ∧ IRows h a L ∧ Ints h b A
theorem Chips.keep {h h' : Hp} (hk : Keeps h h') {v : Value} {L : List (List Int)} {A : List Int} (hv : Chips h v L A) : Chips h' v L A := by
  obtain ⟨a, b, e, h1, h2⟩ := hv
  exact ⟨a, b, e, h1.keep hk, h2.keep hk⟩
/-- Chips in objects of S, that may be written. -/
def ChipsO (S : Nat → Prop) (h : Hp) (v : Value) (L : List (List Int)) (A : List Int) : Prop :=
  ∃ a b, ∃ S1 S2 : Nat → Prop, v = .agg #[a, b] ∧ IRowsO S1 h a L ∧ IntsO S2 h b A ∧ (∀ x, S1 x → S x) ∧ (∀ x, S2 x → S x) ∧ ∀ x, S1 x → ¬ S2 x
theorem ChipsO.chips {S : Nat → Prop} {h : Hp} {v : Value} {L : List (List Int)} {A : List Int} (hv : ChipsO S h v L A) : Chips h v L A := by
  obtain ⟨a, b, S1, S2, e, h1, h2, _⟩ := hv
  exact ⟨a, b, e, h1.rows, h2.ints⟩
theorem ChipsO.same {S : Nat → Prop} {h h' : Hp} (hk : Same S h h') {v : Value} {L : List (List Int)} {A : List Int} (hv : ChipsO S h v L A) : ChipsO S h' v L A := by
  obtain ⟨a, b, S1, S2, e, h1, h2, h3, h4, h5⟩ := hv
  exact ⟨a, b, S1, S2, e, h1.same ⟨hk.1, fun o ho => hk.2 o (h3 o ho)⟩, h2.same ⟨hk.1, fun o ho => hk.2 o (h4 o ho)⟩, h3, h4, h5⟩
theorem ChipsO.keep {S : Nat → Prop} {h h' : Hp} (hk : Keeps h h') {v : Value} {L : List (List Int)} {A : List Int} (hv : ChipsO S h v L A) : ChipsO S h' v L A := hv.same (.of_keeps hk)
theorem ChipsO.sub {S T : Nat → Prop} (hst : ∀ x, S x → T x) {h : Hp} {v : Value} {L : List (List Int)} {A : List Int} (hv : ChipsO S h v L A) : ChipsO T h v L A := by
  obtain ⟨a, b, S1, S2, e, h1, h2, h3, h4, h5⟩ := hv
  exact ⟨a, b, S1, S2, e, h1, h2, fun x hx => hst x (h3 x hx), fun x hx => hst x (h4 x hx), h5⟩
theorem ChipsO.nil (S : Nat → Prop) (h : Hp) : ChipsO S h (.agg #[.slice none 0 0, .slice none 0 0]) [] [] :=
  ⟨_, _, fun _ => False, fun _ => False, rfl, .nil _ _, .nil _ _, fun _ h => h.elim, fun _ h => h.elim, fun _ h => h.elim⟩

/-- What chips leave of a budget. -/
def szC (k : Int) (L : List (List Int)) (A : List Int) : Int := if szSS k L < 0 then -1 else szS (szSS k L) A

theorem szL_le : ∀ (xs : List (List Int)) (k : Int), 0 ≤ k → szL k xs ≤ k ∧ -1 ≤ szL k xs
  | [], k, h => ⟨Int.le_refl _, by simp only [szL]; omega⟩
  | x :: l, k, h => by
    have := szS_le k x h
    by_cases hn : szS k x < 0
    · simp only [szL, if_pos hn]; omega
    · have := szL_le l (szS k x) (by omega)
      simp only [szL, if_neg hn]; omega
theorem szSS_le (k : Int) (xs : List (List Int)) (h : 0 ≤ k) : szSS k xs ≤ k ∧ -1 ≤ szSS k xs := by
  unfold szSS
  by_cases hn : k - (xs.length : Int) < 0
  · rw [if_pos hn]; omega
  · rw [if_neg hn]
    have := szL_le xs (k - xs.length) (by omega)
    omega
theorem szS_len {k : Int} {xs : List Int} (h : ¬ szS k xs < 0) : (xs.length : Int) ≤ k ∧ szS k xs = k - xs.length := by
  unfold szS at h ⊢
  by_cases hn : k - (xs.length : Int) < 0
  · rw [if_pos hn] at h; omega
  · rw [if_neg hn]; omega
theorem szL_tot : ∀ (xs : List (List Int)) (k : Int), 0 ≤ k → ¬ szL k xs < 0 → (tot xs : Int) ≤ k ∧ szL k xs = k - tot xs
  | [], k, _, _ => by simp [tot, szL]; omega
  | y :: l, k, h0, h => by
    by_cases hn : szS k y < 0
    · simp only [szL, if_pos hn] at h; omega
    · simp only [szL, if_neg hn] at h ⊢
      have := szS_le k y h0
      have h1 := szS_len hn
      have h2 := szL_tot l (szS k y) (by omega) h
      simp only [tot]; omega
theorem szSS_tot {k : Int} {xs : List (List Int)} (h : ¬ szSS k xs < 0) : (xs.length : Int) + tot xs ≤ k ∧ szSS k xs = k - xs.length - tot xs := by
  unfold szSS at h ⊢
  by_cases hn : k - (xs.length : Int) < 0
  · rw [if_pos hn] at h; omega
  · rw [if_neg hn] at h ⊢
    have := szL_tot xs (k - xs.length) (by omega) h
    omega
theorem mem_le_tot {L : List (List Int)} {x : List Int} (hx : x ∈ L) : x.length ≤ tot L := by
  obtain ⟨i, hi, rfl⟩ := List.getElem_of_mem hx
  exact len_le_tot L i hi
theorem szC_len {k : Int} {L : List (List Int)} {A : List Int} (h0 : 0 ≤ k) (h : ¬ szC k L A < 0) : (L.length : Int) + tot L + A.length ≤ k := by
  unfold szC at h
  by_cases hn : szSS k L < 0
  · rw [if_pos hn] at h; omega
  · rw [if_neg hn] at h
    have h1 := szSS_tot hn
    have h2 := szS_len h
    omega

end Go.Proofs.Ytnnjehonbolliaa
