/- Chips as one value. -/
import Derived.Test.YtdadnaliiegceaaC1B
namespace Go.Proofs.Ytdadnaliiegceaa
set_option linter.unusedSimpArgs false
set_option linter.unusedVariables false
open Go Go.Eng
attribute [local irreducible] WD RunD PreD Runs CallOK

/-- Chips, read. -/
def Chips (h : Hp) (v : Value) (L : List (List Int)) (A : List Int) : Prop := ∃ a b, v = .agg #[a, b] ∧ (∃ s c, a = .slice s L.length c) ∧ (∃ s c, b = .slice s A.length c) ∧ IRows h a L ∧ Ints h b A
theorem Chips.keep {h h' : Hp} (hk : Keeps h h') {v : Value} {L : List (List Int)} {A : List Int} (hv : Chips h v L A) : Chips h' v L A := by
  obtain ⟨a, b, e, f, g, h1, h2⟩ := hv
  exact ⟨a, b, e, f, g, h1.keep hk, h2.keep hk⟩
theorem Chips.open {h : Hp} {v : Value} {L : List (List Int)} {A : List Int} (hv : Chips h v L A) : ∃ s c s' c', v = .agg #[.slice s L.length c, .slice s' A.length c'] ∧ IRows h (.slice s L.length c) L ∧ Ints h (.slice s' A.length c') A := by
  obtain ⟨_, _, rfl, ⟨s, c, rfl⟩, ⟨s', c', rfl⟩, h1, h2⟩ := hv
  exact ⟨s, c, s', c', rfl, h1, h2⟩

/-- What chips leave of a budget. -/
def szC (k : Int) (L : List (List Int)) (A : List Int) : Int := if szSS k L < 0 then -1 else szS (szSS k L) A

theorem szL_le : ∀ (xs : List (List Int)) (k : Int), 0 ≤ k → szL k xs ≤ k ∧ -1 ≤ szL k xs
  | [], k, h => ⟨Int.le_refl _, by simp only [szL]; omega⟩
  | x :: l, k, h => by
    have := szS_le k x h
    by_cases hn : szS k x < 0
    · simp only [szL, if_pos hn]; omega
    · have := szL_le l (szS k x) (by omega)
      simp only [szL, if_neg hn]; omega
theorem szSS_le (k : Int) (xs : List (List Int)) (h : 0 ≤ k) : szSS k xs ≤ k ∧ -1 ≤ szSS k xs := by
  unfold szSS
  by_cases hn : k - (xs.length : Int) < 0
  · rw [if_pos hn]; omega
  · rw [if_neg hn]
    have := szL_le xs (k - xs.length) (by omega)
    omega
theorem szS_len {k : Int} {xs : List Int} (h : ¬ szS k xs < 0) : (xs.length : Int) ≤ k := by
  unfold szS at h
  by_cases hn : k - (xs.length : Int) < 0
  · rw [if_pos hn] at h; omega
  · omega
theorem szL_len : ∀ (xs : List (List Int)) (k : Int), 0 ≤ k → ¬ szL k xs < 0 → ∀ x ∈ xs, (x.length : Int) ≤ k
  | [], _, _, _, x, hx => by cases hx
  | y :: l, k, h0, h, x, hx => by
    by_cases hn : szS k y < 0
    · simp only [szL, if_pos hn] at h; omega
    · simp only [szL, if_neg hn] at h
      have := szS_le k y h0
      rcases List.mem_cons.1 hx with rfl | hx
      · exact szS_len hn
      · have := szL_len l (szS k y) (by omega) h x hx
        omega
theorem szSS_len {k : Int} {xs : List (List Int)} (h : ¬ szSS k xs < 0) : (xs.length : Int) ≤ k ∧ ∀ x ∈ xs, (x.length : Int) ≤ k := by
  unfold szSS at h
  by_cases hn : k - (xs.length : Int) < 0
  · rw [if_pos hn] at h; omega
  · rw [if_neg hn] at h
    refine ⟨by omega, fun x hx => ?_⟩
    have := szL_len xs _ (by omega) h x hx
    omega
theorem szC_len {k : Int} {L : List (List Int)} {A : List Int} (h0 : 0 ≤ k) (h : ¬ szC k L A < 0) : (L.length : Int) ≤ k ∧ (∀ x ∈ L, (x.length : Int) ≤ k) ∧ (A.length : Int) ≤ k := by
  unfold szC at h
  by_cases hn : szSS k L < 0
  · rw [if_pos hn] at h; omega
  · rw [if_neg hn] at h
    have h1 := szSS_len hn
    have h2 := szS_len h
    have h3 := szSS_le k L h0
    exact ⟨h1.1, h1.2, by omega⟩

theorem szChips_ok (h : Hp) (v : Value) (L : List (List Int)) (A : List Int) (k : Int) (hv : Chips h v L A) (h0 : 0 ≤ k) (h1 : k < 2 ^ 40) : CallOK Try.prog 15 #[v, .int .i64 k] h (.int .i64 (szC k L A)) h := by
  refine call_P 18 _ [.tmp 4] Try.func15 rfl rfl rfl rfl ?_
  obtain ⟨s, c, s', c', rfl, hL, hA⟩ := hv.open
  have hz := szSS_le k L h0
  repeat (first
    | (refine WD_block (fun K hK => ?_))
    | (refine WD_seq (fun K hK => ?_))
    | (refine WD_region (fun K hK => ?_))
    | (refine RunD_o rfl rfl rfl rfl rfl (fun X hX => ?_); simp; refine hX _ _ ?_; clear hX X)
    | (refine RunD_s rfl rfl rfl rfl (fun X hX => ?_); simp; refine hX _ _ ?_; clear hX X)
    | (refine RunD_oT rfl rfl rfl rfl rfl rfl rfl ?hb (fun X hX => ?_); (case hb => simp; done); simp; refine hX _ _ ?_; clear hX X)
    | (refine RunD_oF rfl rfl rfl rfl rfl ?hb ?_; (case hb => simp; done))
    | (refine RunD_oU (c := #[]) rfl rfl rfl rfl rfl ?hb ?_; (case hb => simp; rfl))
    | (refine PreD_oU (c := #[]) rfl rfl rfl rfl rfl ?hb ?_; (case hb => simp; rfl))
    | (refine PreD_o rfl rfl rfl rfl rfl (fun X hX => ?_); simp; refine hX _ _ ?hadd ?_; (case hadd => simp; done); clear hX X)
    | (refine PreD_oT rfl rfl rfl rfl rfl rfl rfl ?hb (fun X hX => ?_); (case hb => simp; done); simp; refine hX _ _ ?hadd ?_; (case hadd => simp; done); clear hX X)
    | (refine PreD_oF rfl rfl rfl rfl rfl ?hb ?_; (case hb => simp; done))
    | (refine RunD_nil ?_; refine hK _ _ ?_; clear hK K)
    | (refine RunD_nil ?_)
    | (refine PreD_nil ?_; refine hK _ _ ?_; clear hK K)
    | (refine WD_skip ?_)
    | (refine WD_exit ?_)
    | (refine WD_ret ?_)
    | (refine WD_true rfl ?hb ?_; (case hb => simp; done))
    | (refine WD_false rfl ?hb ?_; (case hb => simp; done))
    | (refine hK.1 _ _ ?_; clear hK K)
    | (refine hK.2.1 _ _ ?_; clear hK K)
    | (refine hK.2 _ _ _ ?hne ?_; (case hne => simp; done); clear hK K)
    | (refine hK.2.2 _ _ _ ?hne ?_; (case hne => simp; done); clear hK K))
  refine RunD_c rfl rfl rfl rfl (by simp) (by simp) ?ha (szIntSS_ok _ _ L k (hL.keep (Keeps.alloc _ _)) h0 h1) ?_
  (case ha => simp)
  by_cases hn : szSS k L < 0
  · repeat (first
      | (refine WD_block (fun K hK => ?_))
      | (refine WD_seq (fun K hK => ?_))
      | (refine WD_region (fun K hK => ?_))
      | (refine RunD_o rfl rfl rfl rfl rfl (fun X hX => ?_); simp [hn]; refine hX _ _ ?_; clear hX X)
      | (refine RunD_s rfl rfl rfl rfl (fun X hX => ?_); simp [hn]; refine hX _ _ ?_; clear hX X)
      | (refine RunD_oT rfl rfl rfl rfl rfl rfl rfl ?hb (fun X hX => ?_); (case hb => simp [hn]; done); simp [hn]; refine hX _ _ ?_; clear hX X)
      | (refine RunD_oF rfl rfl rfl rfl rfl ?hb ?_; (case hb => simp [hn]; done))
      | (refine RunD_oU (c := #[]) rfl rfl rfl rfl rfl ?hb ?_; (case hb => simp [hn]; rfl))
      | (refine PreD_oU (c := #[]) rfl rfl rfl rfl rfl ?hb ?_; (case hb => simp [hn]; rfl))
      | (refine PreD_o rfl rfl rfl rfl rfl (fun X hX => ?_); simp [hn]; refine hX _ _ ?hadd ?_; (case hadd => simp; done); clear hX X)
      | (refine PreD_oT rfl rfl rfl rfl rfl rfl rfl ?hb (fun X hX => ?_); (case hb => simp [hn]; done); simp [hn]; refine hX _ _ ?hadd ?_; (case hadd => simp; done); clear hX X)
      | (refine PreD_oF rfl rfl rfl rfl rfl ?hb ?_; (case hb => simp [hn]; done))
      | (refine RunD_nil ?_; refine hK _ _ ?_; clear hK K)
      | (refine RunD_nil ?_)
      | (refine PreD_nil ?_; refine hK _ _ ?_; clear hK K)
      | (refine WD_skip ?_)
      | (refine WD_exit ?_)
      | (refine WD_ret ?_)
      | (refine WD_true rfl ?hb ?_; (case hb => simp [hn]; done))
      | (refine WD_false rfl ?hb ?_; (case hb => simp [hn]; done))
      | (refine hK.1 _ _ ?_; clear hK K)
      | (refine hK.2.1 _ _ ?_; clear hK K)
      | (refine hK.2 _ _ _ ?hne ?_; (case hne => simp; done); clear hK K)
      | (refine hK.2.2 _ _ _ ?hne ?_; (case hne => simp; done); clear hK K))
    exact done_ret rfl (by simp [hn, szC])
  · repeat (first
      | (refine WD_block (fun K hK => ?_))
      | (refine WD_seq (fun K hK => ?_))
      | (refine WD_region (fun K hK => ?_))
      | (refine RunD_o rfl rfl rfl rfl rfl (fun X hX => ?_); simp [hn]; refine hX _ _ ?_; clear hX X)
      | (refine RunD_s rfl rfl rfl rfl (fun X hX => ?_); simp [hn]; refine hX _ _ ?_; clear hX X)
      | (refine RunD_oT rfl rfl rfl rfl rfl rfl rfl ?hb (fun X hX => ?_); (case hb => simp [hn]; done); simp [hn]; refine hX _ _ ?_; clear hX X)
      | (refine RunD_oF rfl rfl rfl rfl rfl ?hb ?_; (case hb => simp [hn]; done))
      | (refine RunD_oU (c := #[]) rfl rfl rfl rfl rfl ?hb ?_; (case hb => simp [hn]; rfl))
      | (refine PreD_oU (c := #[]) rfl rfl rfl rfl rfl ?hb ?_; (case hb => simp [hn]; rfl))
      | (refine PreD_o rfl rfl rfl rfl rfl (fun X hX => ?_); simp [hn]; refine hX _ _ ?hadd ?_; (case hadd => simp; done); clear hX X)
      | (refine PreD_oT rfl rfl rfl rfl rfl rfl rfl ?hb (fun X hX => ?_); (case hb => simp [hn]; done); simp [hn]; refine hX _ _ ?hadd ?_; (case hadd => simp; done); clear hX X)
      | (refine PreD_oF rfl rfl rfl rfl rfl ?hb ?_; (case hb => simp [hn]; done))
      | (refine RunD_nil ?_; refine hK _ _ ?_; clear hK K)
      | (refine RunD_nil ?_)
      | (refine PreD_nil ?_; refine hK _ _ ?_; clear hK K)
      | (refine WD_skip ?_)
      | (refine WD_exit ?_)
      | (refine WD_ret ?_)
      | (refine WD_true rfl ?hb ?_; (case hb => simp [hn]; done))
      | (refine WD_false rfl ?hb ?_; (case hb => simp [hn]; done))
      | (refine hK.1 _ _ ?_; clear hK K)
      | (refine hK.2.1 _ _ ?_; clear hK K)
      | (refine hK.2 _ _ _ ?hne ?_; (case hne => simp; done); clear hK K)
      | (refine hK.2.2 _ _ _ ?hne ?_; (case hne => simp; done); clear hK K))
    refine RunD_c rfl rfl rfl rfl (by simp) (by simp) ?ha (szIntS_ok _ _ A (szSS k L) (hA.keep (Keeps.alloc _ _)) (by omega) (by omega)) ?_
    (case ha => simp)
    by_cases hm : szS (szSS k L) A < 0
    · repeat (first
        | (refine WD_block (fun K hK => ?_))
        | (refine WD_seq (fun K hK => ?_))
        | (refine WD_region (fun K hK => ?_))
        | (refine RunD_o rfl rfl rfl rfl rfl (fun X hX => ?_); simp [hm]; refine hX _ _ ?_; clear hX X)
        | (refine RunD_s rfl rfl rfl rfl (fun X hX => ?_); simp [hm]; refine hX _ _ ?_; clear hX X)
        | (refine RunD_oT rfl rfl rfl rfl rfl rfl rfl ?hb (fun X hX => ?_); (case hb => simp [hm]; done); simp [hm]; refine hX _ _ ?_; clear hX X)
        | (refine RunD_oF rfl rfl rfl rfl rfl ?hb ?_; (case hb => simp [hm]; done))
        | (refine RunD_oU (c := #[]) rfl rfl rfl rfl rfl ?hb ?_; (case hb => simp [hm]; rfl))
        | (refine PreD_oU (c := #[]) rfl rfl rfl rfl rfl ?hb ?_; (case hb => simp [hm]; rfl))
        | (refine PreD_o rfl rfl rfl rfl rfl (fun X hX => ?_); simp [hm]; refine hX _ _ ?hadd ?_; (case hadd => simp; done); clear hX X)
        | (refine PreD_oT rfl rfl rfl rfl rfl rfl rfl ?hb (fun X hX => ?_); (case hb => simp [hm]; done); simp [hm]; refine hX _ _ ?hadd ?_; (case hadd => simp; done); clear hX X)
        | (refine PreD_oF rfl rfl rfl rfl rfl ?hb ?_; (case hb => simp [hm]; done))
        | (refine RunD_nil ?_; refine hK _ _ ?_; clear hK K)
        | (refine RunD_nil ?_)
        | (refine PreD_nil ?_; refine hK _ _ ?_; clear hK K)
        | (refine WD_skip ?_)
        | (refine WD_exit ?_)
        | (refine WD_ret ?_)
        | (refine WD_true rfl ?hb ?_; (case hb => simp [hm]; done))
        | (refine WD_false rfl ?hb ?_; (case hb => simp [hm]; done))
        | (refine hK.1 _ _ ?_; clear hK K)
        | (refine hK.2.1 _ _ ?_; clear hK K)
        | (refine hK.2 _ _ _ ?hne ?_; (case hne => simp; done); clear hK K)
        | (refine hK.2.2 _ _ _ ?hne ?_; (case hne => simp; done); clear hK K))
      have := szS_le (szSS k L) A (by omega)
      exact done_ret rfl (by simp [hn, szC]; omega)
    · repeat (first
        | (refine WD_block (fun K hK => ?_))
        | (refine WD_seq (fun K hK => ?_))
        | (refine WD_region (fun K hK => ?_))
        | (refine RunD_o rfl rfl rfl rfl rfl (fun X hX => ?_); simp [hm]; refine hX _ _ ?_; clear hX X)
        | (refine RunD_s rfl rfl rfl rfl (fun X hX => ?_); simp [hm]; refine hX _ _ ?_; clear hX X)
        | (refine RunD_oT rfl rfl rfl rfl rfl rfl rfl ?hb (fun X hX => ?_); (case hb => simp [hm]; done); simp [hm]; refine hX _ _ ?_; clear hX X)
        | (refine RunD_oF rfl rfl rfl rfl rfl ?hb ?_; (case hb => simp [hm]; done))
        | (refine RunD_oU (c := #[]) rfl rfl rfl rfl rfl ?hb ?_; (case hb => simp [hm]; rfl))
        | (refine PreD_oU (c := #[]) rfl rfl rfl rfl rfl ?hb ?_; (case hb => simp [hm]; rfl))
        | (refine PreD_o rfl rfl rfl rfl rfl (fun X hX => ?_); simp [hm]; refine hX _ _ ?hadd ?_; (case hadd => simp; done); clear hX X)
        | (refine PreD_oT rfl rfl rfl rfl rfl rfl rfl ?hb (fun X hX => ?_); (case hb => simp [hm]; done); simp [hm]; refine hX _ _ ?hadd ?_; (case hadd => simp; done); clear hX X)
        | (refine PreD_oF rfl rfl rfl rfl rfl ?hb ?_; (case hb => simp [hm]; done))
        | (refine RunD_nil ?_; refine hK _ _ ?_; clear hK K)
        | (refine RunD_nil ?_)
        | (refine PreD_nil ?_; refine hK _ _ ?_; clear hK K)
        | (refine WD_skip ?_)
        | (refine WD_exit ?_)
        | (refine WD_ret ?_)
        | (refine WD_true rfl ?hb ?_; (case hb => simp [hm]; done))
        | (refine WD_false rfl ?hb ?_; (case hb => simp [hm]; done))
        | (refine hK.1 _ _ ?_; clear hK K)
        | (refine hK.2.1 _ _ ?_; clear hK K)
        | (refine hK.2 _ _ _ ?hne ?_; (case hne => simp; done); clear hK K)
        | (refine hK.2.2 _ _ _ ?hne ?_; (case hne => simp; done); clear hK K))
      exact done_ret rfl (by simp [hn, szC])

theorem toChips_ok (h : Hp) (v : Value) (L : List (List Int)) (A : List Int) (hv : Chips h v L A) (hl : L.length < 2 ^ 40) (hr : ∀ x ∈ L, x.length < 2 ^ 40) (ha : A.length < 2 ^ 40) :
    ∃ v' h', CallOK Try.prog 17 #[v] h v' h' ∧ Adds h h' ∧ Chips h' v' L A := by
  refine call_L (args := [v]) 13 _ [.cell 2 28] Try.func17 rfl rfl rfl ?_
  obtain ⟨s, c, s', c', rfl, hL, hA⟩ := hv.open
  repeat (first
    | (refine WD_block (fun K hK => ?_))
    | (refine WD_seq (fun K hK => ?_))
    | (refine WD_region (fun K hK => ?_))
    | (refine RunD_o rfl rfl rfl rfl rfl (fun X hX => ?_); simp; refine hX _ _ ?_; clear hX X)
    | (refine RunD_s rfl rfl rfl rfl (fun X hX => ?_); simp; refine hX _ _ ?_; clear hX X)
    | (refine RunD_oT rfl rfl rfl rfl rfl rfl rfl ?hb (fun X hX => ?_); (case hb => simp; done); simp; refine hX _ _ ?_; clear hX X)
    | (refine RunD_oF rfl rfl rfl rfl rfl ?hb ?_; (case hb => simp; done))
    | (refine RunD_oU (c := #[]) rfl rfl rfl rfl rfl ?hb ?_; (case hb => simp; rfl))
    | (refine PreD_oU (c := #[]) rfl rfl rfl rfl rfl ?hb ?_; (case hb => simp; rfl))
    | (refine PreD_o rfl rfl rfl rfl rfl (fun X hX => ?_); simp; refine hX _ _ ?hadd ?_; (case hadd => simp; done); clear hX X)
    | (refine PreD_oT rfl rfl rfl rfl rfl rfl rfl ?hb (fun X hX => ?_); (case hb => simp; done); simp; refine hX _ _ ?hadd ?_; (case hadd => simp; done); clear hX X)
    | (refine PreD_oF rfl rfl rfl rfl rfl ?hb ?_; (case hb => simp; done))
    | (refine RunD_nil ?_; refine hK _ _ ?_; clear hK K)
    | (refine RunD_nil ?_)
    | (refine PreD_nil ?_; refine hK _ _ ?_; clear hK K)
    | (refine WD_skip ?_)
    | (refine WD_exit ?_)
    | (refine WD_ret ?_)
    | (refine WD_true rfl ?hb ?_; (case hb => simp; done))
    | (refine WD_false rfl ?hb ?_; (case hb => simp; done))
    | (refine hK.1 _ _ ?_; clear hK K)
    | (refine hK.2.1 _ _ ?_; clear hK K)
    | (refine hK.2 _ _ _ ?hne ?_; (case hne => simp; done); clear hK K)
    | (refine hK.2.2 _ _ _ ?hne ?_; (case hne => simp; done); clear hK K))
  obtain ⟨v1, h1, hc1, ha1, hi1⟩ := toIntSS_ok (((h.alloc (.cells [.slice s L.length c, .slice s' A.length c'] true true 1)).alloc (.cells [.slice none 0 0, .slice none 0 0] true true 1)).alloc (.cells [.slice none 0 0, .slice none 0 0] true true 1)) _ L (hL.keep (by repeat (first | exact keep_self _ | exact adds_self _ | assumption | refine keeps_alloc ?_ _ | refine adds_alloc ?_ _ _ _ | (refine keeps_put ?_ ?hle _; (case hle => simp; try omega)) | (refine adds_put ?_ ?hle _ _ _; (case hle => simp; try omega))))) hl hr
  obtain ⟨s1, c1, f1, _, _⟩ := hi1.rows.form
  subst f1
  refine RunD_c rfl rfl rfl rfl (by simp) (by simp) ?ha (hc1) ?_
  (case ha => simp)
  have g0 : h1.get h.next = .cells [.slice s L.length c, .slice s' A.length c'] true true 1 := by rw [ha1.1.2 _ (by simp; omega)]; simp
  have g1 : h1.get (h.next + 1) = .cells [.slice none 0 0, .slice none 0 0] true true 1 := by rw [ha1.1.2 _ (by simp)]; simp
  have g2 : h1.get (h.next + 2) = .cells [.slice none 0 0, .slice none 0 0] true true 1 := by rw [ha1.1.2 _ (by simp)]; simp
  have n1 : h.next + 3 ≤ h1.next := by simpa using ha1.1.1
  have ka : Adds h h1 := Adds.trans (by repeat (first | exact keep_self _ | exact adds_self _ | assumption | refine keeps_alloc ?_ _ | refine adds_alloc ?_ _ _ _ | (refine keeps_put ?_ ?hle _; (case hle => simp; try omega)) | (refine adds_put ?_ ?hle _ _ _; (case hle => simp; try omega)))) ha1
  repeat (first
    | (refine WD_block (fun K hK => ?_))
    | (refine WD_seq (fun K hK => ?_))
    | (refine WD_region (fun K hK => ?_))
    | (refine RunD_o rfl rfl rfl rfl rfl (fun X hX => ?_); simp [g0, g1, g2, putCells]; refine hX _ _ ?_; clear hX X)
    | (refine RunD_s rfl rfl rfl rfl (fun X hX => ?_); simp [g0, g1, g2, putCells]; refine hX _ _ ?_; clear hX X)
    | (refine RunD_oT rfl rfl rfl rfl rfl rfl rfl ?hb (fun X hX => ?_); (case hb => simp [g0, g1, g2, putCells]; done); simp [g0, g1, g2, putCells]; refine hX _ _ ?_; clear hX X)
    | (refine RunD_oF rfl rfl rfl rfl rfl ?hb ?_; (case hb => simp [g0, g1, g2, putCells]; done))
    | (refine RunD_oU (c := #[]) rfl rfl rfl rfl rfl ?hb ?_; (case hb => simp [g0, g1, g2, putCells]; rfl))
    | (refine PreD_oU (c := #[]) rfl rfl rfl rfl rfl ?hb ?_; (case hb => simp [g0, g1, g2, putCells]; rfl))
    | (refine PreD_o rfl rfl rfl rfl rfl (fun X hX => ?_); simp [g0, g1, g2, putCells]; refine hX _ _ ?hadd ?_; (case hadd => simp; done); clear hX X)
    | (refine PreD_oT rfl rfl rfl rfl rfl rfl rfl ?hb (fun X hX => ?_); (case hb => simp [g0, g1, g2, putCells]; done); simp [g0, g1, g2, putCells]; refine hX _ _ ?hadd ?_; (case hadd => simp; done); clear hX X)
    | (refine PreD_oF rfl rfl rfl rfl rfl ?hb ?_; (case hb => simp [g0, g1, g2, putCells]; done))
    | (refine RunD_nil ?_; refine hK _ _ ?_; clear hK K)
    | (refine RunD_nil ?_)
    | (refine PreD_nil ?_; refine hK _ _ ?_; clear hK K)
    | (refine WD_skip ?_)
    | (refine WD_exit ?_)
    | (refine WD_ret ?_)
    | (refine WD_true rfl ?hb ?_; (case hb => simp [g0, g1, g2, putCells]; done))
    | (refine WD_false rfl ?hb ?_; (case hb => simp [g0, g1, g2, putCells]; done))
    | (refine hK.1 _ _ ?_; clear hK K)
    | (refine hK.2.1 _ _ ?_; clear hK K)
    | (refine hK.2 _ _ _ ?hne ?_; (case hne => simp; done); clear hK K)
    | (refine hK.2.2 _ _ _ ?hne ?_; (case hne => simp; done); clear hK K))
  have kb : Adds h (h1.put (h.next + 2) (.cells [.slice s1 L.length c1, .slice none 0 0] true true 1)) := (by repeat (first | exact keep_self _ | exact adds_self _ | assumption | refine keeps_alloc ?_ _ | refine adds_alloc ?_ _ _ _ | (refine keeps_put ?_ ?hle _; (case hle => simp; try omega)) | (refine adds_put ?_ ?hle _ _ _; (case hle => simp; try omega))))
  obtain ⟨v2, h2, hc2, ha2, hi2⟩ := toIntS_ok (h1.put (h.next + 2) (.cells [.slice s1 L.length c1, .slice none 0 0] true true 1)) _ A (hA.keep kb.1) ha
  obtain ⟨s2, c2, f2, _, _⟩ := hi2.1.form
  subst f2
  refine RunD_c rfl rfl rfl rfl (by simp) (by simp) ?ha (hc2) ?_
  (case ha => simp)
  have g0' : h2.get h.next = .cells [.slice s L.length c, .slice s' A.length c'] true true 1 := by rw [ha2.1.2 _ (by simp; omega)]; simp [g0]
  have g1' : h2.get (h.next + 1) = .cells [.slice none 0 0, .slice none 0 0] true true 1 := by rw [ha2.1.2 _ (by simp; omega)]; simp [g1]
  have g2' : h2.get (h.next + 2) = .cells [.slice s1 L.length c1, .slice none 0 0] true true 1 := by rw [ha2.1.2 _ (by simp; omega)]; simp
  have kc : Adds h h2 := kb.trans ha2
  have n2 : h.next + 3 ≤ h2.next := Nat.le_trans n1 (by simpa using ha2.1.1)
  have hR : IRowsN (h.next + 3) h2 (.slice s1 L.length c1) L := ((show IRowsN (h.next + 3) h1 (.slice s1 L.length c1) L by simpa using hi1).put (by omega) _).keep ha2.1
  have hS : IntsN (h.next + 3) h2 (.slice s2 A.length c2) A := ⟨hi2.1, fun p hp => hi2.2 p (by simp; omega)⟩
  repeat (first
    | (refine WD_block (fun K hK => ?_))
    | (refine WD_seq (fun K hK => ?_))
    | (refine WD_region (fun K hK => ?_))
    | (refine RunD_o rfl rfl rfl rfl rfl (fun X hX => ?_); simp [g0', g1', g2', putCells]; refine hX _ _ ?_; clear hX X)
    | (refine RunD_s rfl rfl rfl rfl (fun X hX => ?_); simp [g0', g1', g2', putCells]; refine hX _ _ ?_; clear hX X)
    | (refine RunD_oT rfl rfl rfl rfl rfl rfl rfl ?hb (fun X hX => ?_); (case hb => simp [g0', g1', g2', putCells]; done); simp [g0', g1', g2', putCells]; refine hX _ _ ?_; clear hX X)
    | (refine RunD_oF rfl rfl rfl rfl rfl ?hb ?_; (case hb => simp [g0', g1', g2', putCells]; done))
    | (refine RunD_oU (c := #[]) rfl rfl rfl rfl rfl ?hb ?_; (case hb => simp [g0', g1', g2', putCells]; rfl))
    | (refine PreD_oU (c := #[]) rfl rfl rfl rfl rfl ?hb ?_; (case hb => simp [g0', g1', g2', putCells]; rfl))
    | (refine PreD_o rfl rfl rfl rfl rfl (fun X hX => ?_); simp [g0', g1', g2', putCells]; refine hX _ _ ?hadd ?_; (case hadd => simp; done); clear hX X)
    | (refine PreD_oT rfl rfl rfl rfl rfl rfl rfl ?hb (fun X hX => ?_); (case hb => simp [g0', g1', g2', putCells]; done); simp [g0', g1', g2', putCells]; refine hX _ _ ?hadd ?_; (case hadd => simp; done); clear hX X)
    | (refine PreD_oF rfl rfl rfl rfl rfl ?hb ?_; (case hb => simp [g0', g1', g2', putCells]; done))
    | (refine RunD_nil ?_; refine hK _ _ ?_; clear hK K)
    | (refine RunD_nil ?_)
    | (refine PreD_nil ?_; refine hK _ _ ?_; clear hK K)
    | (refine WD_skip ?_)
    | (refine WD_exit ?_)
    | (refine WD_ret ?_)
    | (refine WD_true rfl ?hb ?_; (case hb => simp [g0', g1', g2', putCells]; done))
    | (refine WD_false rfl ?hb ?_; (case hb => simp [g0', g1', g2', putCells]; done))
    | (refine hK.1 _ _ ?_; clear hK K)
    | (refine hK.2.1 _ _ ?_; clear hK K)
    | (refine hK.2 _ _ _ ?hne ?_; (case hne => simp; done); clear hK K)
    | (refine hK.2.2 _ _ _ ?hne ?_; (case hne => simp; done); clear hK K))
  refine done_ret (by simp [putCells, g0', g1', g2']; rfl) ⟨(by repeat (first | exact keep_self _ | exact adds_self _ | assumption | refine keeps_alloc ?_ _ | refine adds_alloc ?_ _ _ _ | (refine keeps_put ?_ ?hle _; (case hle => simp; try omega)) | (refine adds_put ?_ ?hle _ _ _; (case hle => simp; try omega)))), _, _, rfl, ⟨_, _, rfl⟩, ⟨_, _, rfl⟩, (((hR.put (by omega) _).put (by omega) _)).rows, (((hS.put (by omega) _).put (by omega) _)).1⟩

theorem eqChips_ok (h : Hp) (v w : Value) (L M : List (List Int)) (A B : List Int) (hv : Chips h v L A) (hw : Chips h w M B) : CallOK Try.prog 19 #[v, w] h (.bool (decide (L = M ∧ A = B))) h := by
  refine call_P 17 _ [.tmp 4] Try.func19 rfl rfl rfl rfl ?_
  obtain ⟨s, c, s', c', rfl, hL, hA⟩ := hv.open
  obtain ⟨t, d, t', d', rfl, hM, hB⟩ := hw.open
  repeat (first
    | (refine WD_block (fun K hK => ?_))
    | (refine WD_seq (fun K hK => ?_))
    | (refine WD_region (fun K hK => ?_))
    | (refine RunD_o rfl rfl rfl rfl rfl (fun X hX => ?_); simp; refine hX _ _ ?_; clear hX X)
    | (refine RunD_s rfl rfl rfl rfl (fun X hX => ?_); simp; refine hX _ _ ?_; clear hX X)
    | (refine RunD_oT rfl rfl rfl rfl rfl rfl rfl ?hb (fun X hX => ?_); (case hb => simp; done); simp; refine hX _ _ ?_; clear hX X)
    | (refine RunD_oF rfl rfl rfl rfl rfl ?hb ?_; (case hb => simp; done))
    | (refine RunD_oU (c := #[]) rfl rfl rfl rfl rfl ?hb ?_; (case hb => simp; rfl))
    | (refine PreD_oU (c := #[]) rfl rfl rfl rfl rfl ?hb ?_; (case hb => simp; rfl))
    | (refine PreD_o rfl rfl rfl rfl rfl (fun X hX => ?_); simp; refine hX _ _ ?hadd ?_; (case hadd => simp; done); clear hX X)
    | (refine PreD_oT rfl rfl rfl rfl rfl rfl rfl ?hb (fun X hX => ?_); (case hb => simp; done); simp; refine hX _ _ ?hadd ?_; (case hadd => simp; done); clear hX X)
    | (refine PreD_oF rfl rfl rfl rfl rfl ?hb ?_; (case hb => simp; done))
    | (refine RunD_nil ?_; refine hK _ _ ?_; clear hK K)
    | (refine RunD_nil ?_)
    | (refine PreD_nil ?_; refine hK _ _ ?_; clear hK K)
    | (refine WD_skip ?_)
    | (refine WD_exit ?_)
    | (refine WD_ret ?_)
    | (refine WD_true rfl ?hb ?_; (case hb => simp; done))
    | (refine WD_false rfl ?hb ?_; (case hb => simp; done))
    | (refine hK.1 _ _ ?_; clear hK K)
    | (refine hK.2.1 _ _ ?_; clear hK K)
    | (refine hK.2 _ _ _ ?hne ?_; (case hne => simp; done); clear hK K)
    | (refine hK.2.2 _ _ _ ?hne ?_; (case hne => simp; done); clear hK K))
  refine RunD_c rfl rfl rfl rfl (by simp) (by simp) ?ha (eqIntSS_ok _ _ _ L M (hL.keep (by repeat (first | exact keep_self _ | exact adds_self _ | assumption | refine keeps_alloc ?_ _ | refine adds_alloc ?_ _ _ _ | (refine keeps_put ?_ ?hle _; (case hle => simp; try omega)) | (refine adds_put ?_ ?hle _ _ _; (case hle => simp; try omega))))) (hM.keep (by repeat (first | exact keep_self _ | exact adds_self _ | assumption | refine keeps_alloc ?_ _ | refine adds_alloc ?_ _ _ _ | (refine keeps_put ?_ ?hle _; (case hle => simp; try omega)) | (refine adds_put ?_ ?hle _ _ _; (case hle => simp; try omega)))))) ?_
  (case ha => simp)
  by_cases hn : L = M
  · repeat (first
      | (refine WD_block (fun K hK => ?_))
      | (refine WD_seq (fun K hK => ?_))
      | (refine WD_region (fun K hK => ?_))
      | (refine RunD_o rfl rfl rfl rfl rfl (fun X hX => ?_); simp [hn]; refine hX _ _ ?_; clear hX X)
      | (refine RunD_s rfl rfl rfl rfl (fun X hX => ?_); simp [hn]; refine hX _ _ ?_; clear hX X)
      | (refine RunD_oT rfl rfl rfl rfl rfl rfl rfl ?hb (fun X hX => ?_); (case hb => simp [hn]; done); simp [hn]; refine hX _ _ ?_; clear hX X)
      | (refine RunD_oF rfl rfl rfl rfl rfl ?hb ?_; (case hb => simp [hn]; done))
      | (refine RunD_oU (c := #[]) rfl rfl rfl rfl rfl ?hb ?_; (case hb => simp [hn]; rfl))
      | (refine PreD_oU (c := #[]) rfl rfl rfl rfl rfl ?hb ?_; (case hb => simp [hn]; rfl))
      | (refine PreD_o rfl rfl rfl rfl rfl (fun X hX => ?_); simp [hn]; refine hX _ _ ?hadd ?_; (case hadd => simp; done); clear hX X)
      | (refine PreD_oT rfl rfl rfl rfl rfl rfl rfl ?hb (fun X hX => ?_); (case hb => simp [hn]; done); simp [hn]; refine hX _ _ ?hadd ?_; (case hadd => simp; done); clear hX X)
      | (refine PreD_oF rfl rfl rfl rfl rfl ?hb ?_; (case hb => simp [hn]; done))
      | (refine RunD_nil ?_; refine hK _ _ ?_; clear hK K)
      | (refine RunD_nil ?_)
      | (refine PreD_nil ?_; refine hK _ _ ?_; clear hK K)
      | (refine WD_skip ?_)
      | (refine WD_exit ?_)
      | (refine WD_ret ?_)
      | (refine WD_true rfl ?hb ?_; (case hb => simp [hn]; done))
      | (refine WD_false rfl ?hb ?_; (case hb => simp [hn]; done))
      | (refine hK.1 _ _ ?_; clear hK K)
      | (refine hK.2.1 _ _ ?_; clear hK K)
      | (refine hK.2 _ _ _ ?hne ?_; (case hne => simp; done); clear hK K)
      | (refine hK.2.2 _ _ _ ?hne ?_; (case hne => simp; done); clear hK K))
    refine RunD_c rfl rfl rfl rfl (by simp) (by simp) ?ha (eqIntS_ok _ _ _ A B (hA.keep (by repeat (first | exact keep_self _ | exact adds_self _ | assumption | refine keeps_alloc ?_ _ | refine adds_alloc ?_ _ _ _ | (refine keeps_put ?_ ?hle _; (case hle => simp; try omega)) | (refine adds_put ?_ ?hle _ _ _; (case hle => simp; try omega))))) (hB.keep (by repeat (first | exact keep_self _ | exact adds_self _ | assumption | refine keeps_alloc ?_ _ | refine adds_alloc ?_ _ _ _ | (refine keeps_put ?_ ?hle _; (case hle => simp; try omega)) | (refine adds_put ?_ ?hle _ _ _; (case hle => simp; try omega)))))) ?_
    (case ha => simp)
    by_cases hm : A = B
    · repeat (first
        | (refine WD_block (fun K hK => ?_))
        | (refine WD_seq (fun K hK => ?_))
        | (refine WD_region (fun K hK => ?_))
        | (refine RunD_o rfl rfl rfl rfl rfl (fun X hX => ?_); simp [hn, hm]; refine hX _ _ ?_; clear hX X)
        | (refine RunD_s rfl rfl rfl rfl (fun X hX => ?_); simp [hn, hm]; refine hX _ _ ?_; clear hX X)
        | (refine RunD_oT rfl rfl rfl rfl rfl rfl rfl ?hb (fun X hX => ?_); (case hb => simp [hn, hm]; done); simp [hn, hm]; refine hX _ _ ?_; clear hX X)
        | (refine RunD_oF rfl rfl rfl rfl rfl ?hb ?_; (case hb => simp [hn, hm]; done))
        | (refine RunD_oU (c := #[]) rfl rfl rfl rfl rfl ?hb ?_; (case hb => simp [hn, hm]; rfl))
        | (refine PreD_oU (c := #[]) rfl rfl rfl rfl rfl ?hb ?_; (case hb => simp [hn, hm]; rfl))
        | (refine PreD_o rfl rfl rfl rfl rfl (fun X hX => ?_); simp [hn, hm]; refine hX _ _ ?hadd ?_; (case hadd => simp; done); clear hX X)
        | (refine PreD_oT rfl rfl rfl rfl rfl rfl rfl ?hb (fun X hX => ?_); (case hb => simp [hn, hm]; done); simp [hn, hm]; refine hX _ _ ?hadd ?_; (case hadd => simp; done); clear hX X)
        | (refine PreD_oF rfl rfl rfl rfl rfl ?hb ?_; (case hb => simp [hn, hm]; done))
        | (refine RunD_nil ?_; refine hK _ _ ?_; clear hK K)
        | (refine RunD_nil ?_)
        | (refine PreD_nil ?_; refine hK _ _ ?_; clear hK K)
        | (refine WD_skip ?_)
        | (refine WD_exit ?_)
        | (refine WD_ret ?_)
        | (refine WD_true rfl ?hb ?_; (case hb => simp [hn, hm]; done))
        | (refine WD_false rfl ?hb ?_; (case hb => simp [hn, hm]; done))
        | (refine hK.1 _ _ ?_; clear hK K)
        | (refine hK.2.1 _ _ ?_; clear hK K)
        | (refine hK.2 _ _ _ ?hne ?_; (case hne => simp; done); clear hK K)
        | (refine hK.2.2 _ _ _ ?hne ?_; (case hne => simp; done); clear hK K))
      exact done_ret rfl (by simp [hn, hm])
    · repeat (first
        | (refine WD_block (fun K hK => ?_))
        | (refine WD_seq (fun K hK => ?_))
        | (refine WD_region (fun K hK => ?_))
        | (refine RunD_o rfl rfl rfl rfl rfl (fun X hX => ?_); simp [hn, hm]; refine hX _ _ ?_; clear hX X)
        | (refine RunD_s rfl rfl rfl rfl (fun X hX => ?_); simp [hn, hm]; refine hX _ _ ?_; clear hX X)
        | (refine RunD_oT rfl rfl rfl rfl rfl rfl rfl ?hb (fun X hX => ?_); (case hb => simp [hn, hm]; done); simp [hn, hm]; refine hX _ _ ?_; clear hX X)
        | (refine RunD_oF rfl rfl rfl rfl rfl ?hb ?_; (case hb => simp [hn, hm]; done))
        | (refine RunD_oU (c := #[]) rfl rfl rfl rfl rfl ?hb ?_; (case hb => simp [hn, hm]; rfl))
        | (refine PreD_oU (c := #[]) rfl rfl rfl rfl rfl ?hb ?_; (case hb => simp [hn, hm]; rfl))
        | (refine PreD_o rfl rfl rfl rfl rfl (fun X hX => ?_); simp [hn, hm]; refine hX _ _ ?hadd ?_; (case hadd => simp; done); clear hX X)
        | (refine PreD_oT rfl rfl rfl rfl rfl rfl rfl ?hb (fun X hX => ?_); (case hb => simp [hn, hm]; done); simp [hn, hm]; refine hX _ _ ?hadd ?_; (case hadd => simp; done); clear hX X)
        | (refine PreD_oF rfl rfl rfl rfl rfl ?hb ?_; (case hb => simp [hn, hm]; done))
        | (refine RunD_nil ?_; refine hK _ _ ?_; clear hK K)
        | (refine RunD_nil ?_)
        | (refine PreD_nil ?_; refine hK _ _ ?_; clear hK K)
        | (refine WD_skip ?_)
        | (refine WD_exit ?_)
        | (refine WD_ret ?_)
        | (refine WD_true rfl ?hb ?_; (case hb => simp [hn, hm]; done))
        | (refine WD_false rfl ?hb ?_; (case hb => simp [hn, hm]; done))
        | (refine hK.1 _ _ ?_; clear hK K)
        | (refine hK.2.1 _ _ ?_; clear hK K)
        | (refine hK.2 _ _ _ ?hne ?_; (case hne => simp; done); clear hK K)
        | (refine hK.2.2 _ _ _ ?hne ?_; (case hne => simp; done); clear hK K))
      exact done_ret rfl (by simp [hn, hm])
  · repeat (first
      | (refine WD_block (fun K hK => ?_))
      | (refine WD_seq (fun K hK => ?_))
      | (refine WD_region (fun K hK => ?_))
      | (refine RunD_o rfl rfl rfl rfl rfl (fun X hX => ?_); simp [hn]; refine hX _ _ ?_; clear hX X)
      | (refine RunD_s rfl rfl rfl rfl (fun X hX => ?_); simp [hn]; refine hX _ _ ?_; clear hX X)
      | (refine RunD_oT rfl rfl rfl rfl rfl rfl rfl ?hb (fun X hX => ?_); (case hb => simp [hn]; done); simp [hn]; refine hX _ _ ?_; clear hX X)
      | (refine RunD_oF rfl rfl rfl rfl rfl ?hb ?_; (case hb => simp [hn]; done))
      | (refine RunD_oU (c := #[]) rfl rfl rfl rfl rfl ?hb ?_; (case hb => simp [hn]; rfl))
      | (refine PreD_oU (c := #[]) rfl rfl rfl rfl rfl ?hb ?_; (case hb => simp [hn]; rfl))
      | (refine PreD_o rfl rfl rfl rfl rfl (fun X hX => ?_); simp [hn]; refine hX _ _ ?hadd ?_; (case hadd => simp; done); clear hX X)
      | (refine PreD_oT rfl rfl rfl rfl rfl rfl rfl ?hb (fun X hX => ?_); (case hb => simp [hn]; done); simp [hn]; refine hX _ _ ?hadd ?_; (case hadd => simp; done); clear hX X)
      | (refine PreD_oF rfl rfl rfl rfl rfl ?hb ?_; (case hb => simp [hn]; done))
      | (refine RunD_nil ?_; refine hK _ _ ?_; clear hK K)
      | (refine RunD_nil ?_)
      | (refine PreD_nil ?_; refine hK _ _ ?_; clear hK K)
      | (refine WD_skip ?_)
      | (refine WD_exit ?_)
      | (refine WD_ret ?_)
      | (refine WD_true rfl ?hb ?_; (case hb => simp [hn]; done))
      | (refine WD_false rfl ?hb ?_; (case hb => simp [hn]; done))
      | (refine hK.1 _ _ ?_; clear hK K)
      | (refine hK.2.1 _ _ ?_; clear hK K)
      | (refine hK.2 _ _ _ ?hne ?_; (case hne => simp; done); clear hK K)
      | (refine hK.2.2 _ _ _ ?hne ?_; (case hne => simp; done); clear hK K))
    exact done_ret rfl (by simp [hn])
end Go.Proofs.Ytdadnaliiegceaa
