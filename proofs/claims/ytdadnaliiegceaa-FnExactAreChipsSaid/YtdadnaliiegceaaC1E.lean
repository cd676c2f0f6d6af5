/- Whether they are chips: the program. -/
import Derived.Test.YtdadnaliiegceaaC1D
namespace Go.Proofs.Ytdadnaliiegceaa
set_option linter.unusedSimpArgs false
set_option linter.unusedVariables false
open Go Go.Eng
attribute [local irreducible] WD RunD PreD Runs CallOK

theorem within_ok (h : Hp) (a b c : Int) : CallOK Try.prog 52 #[.int .i64 a, .int .i64 b, .int .i64 c] h (.bool (decide (b ≤ a ∧ a ≤ c))) h := by
  refine call_P 15 _ [.tmp 6] Try.func52 rfl rfl rfl rfl ?_
  by_cases hc : b ≤ a
  · repeat (first
      | (refine WD_block (fun K hK => ?_))
      | (refine WD_seq (fun K hK => ?_))
      | (refine WD_region (fun K hK => ?_))
      | (refine RunD_o rfl rfl rfl rfl rfl (fun X hX => ?_); simp [hc]; refine hX _ _ ?_; clear hX X)
      | (refine RunD_s rfl rfl rfl rfl (fun X hX => ?_); simp [hc]; refine hX _ _ ?_; clear hX X)
      | (refine RunD_oT rfl rfl rfl rfl rfl rfl rfl ?hb (fun X hX => ?_); (case hb => simp [hc]; done); simp [hc]; refine hX _ _ ?_; clear hX X)
      | (refine RunD_oF rfl rfl rfl rfl rfl ?hb ?_; (case hb => simp [hc]; done))
      | (refine RunD_oU (c := #[]) rfl rfl rfl rfl rfl ?hb ?_; (case hb => simp [hc]; rfl))
      | (refine PreD_oU (c := #[]) rfl rfl rfl rfl rfl ?hb ?_; (case hb => simp [hc]; rfl))
      | (refine PreD_o rfl rfl rfl rfl rfl (fun X hX => ?_); simp [hc]; refine hX _ _ ?hadd ?_; (case hadd => simp; done); clear hX X)
      | (refine PreD_oT rfl rfl rfl rfl rfl rfl rfl ?hb (fun X hX => ?_); (case hb => simp [hc]; done); simp [hc]; refine hX _ _ ?hadd ?_; (case hadd => simp; done); clear hX X)
      | (refine PreD_oF rfl rfl rfl rfl rfl ?hb ?_; (case hb => simp [hc]; done))
      | (refine RunD_nil ?_; refine hK _ _ ?_; clear hK K)
      | (refine RunD_nil ?_)
      | (refine PreD_nil ?_; refine hK _ _ ?_; clear hK K)
      | (refine WD_skip ?_)
      | (refine WD_exit ?_)
      | (refine WD_ret ?_)
      | (refine WD_true rfl ?hb ?_; (case hb => simp [hc]; done))
      | (refine WD_false rfl ?hb ?_; (case hb => simp [hc]; done))
      | (refine hK.1 _ _ ?_; clear hK K)
      | (refine hK.2.1 _ _ ?_; clear hK K)
      | (refine hK.2 _ _ _ ?hne ?_; (case hne => simp; done); clear hK K)
      | (refine hK.2.2 _ _ _ ?hne ?_; (case hne => simp; done); clear hK K))
    exact done_ret rfl (by simp [hc])
  · repeat (first
      | (refine WD_block (fun K hK => ?_))
      | (refine WD_seq (fun K hK => ?_))
      | (refine WD_region (fun K hK => ?_))
      | (refine RunD_o rfl rfl rfl rfl rfl (fun X hX => ?_); simp [hc]; refine hX _ _ ?_; clear hX X)
      | (refine RunD_s rfl rfl rfl rfl (fun X hX => ?_); simp [hc]; refine hX _ _ ?_; clear hX X)
      | (refine RunD_oT rfl rfl rfl rfl rfl rfl rfl ?hb (fun X hX => ?_); (case hb => simp [hc]; done); simp [hc]; refine hX _ _ ?_; clear hX X)
      | (refine RunD_oF rfl rfl rfl rfl rfl ?hb ?_; (case hb => simp [hc]; done))
      | (refine RunD_oU (c := #[]) rfl rfl rfl rfl rfl ?hb ?_; (case hb => simp [hc]; rfl))
      | (refine PreD_oU (c := #[]) rfl rfl rfl rfl rfl ?hb ?_; (case hb => simp [hc]; rfl))
      | (refine PreD_o rfl rfl rfl rfl rfl (fun X hX => ?_); simp [hc]; refine hX _ _ ?hadd ?_; (case hadd => simp; done); clear hX X)
      | (refine PreD_oT rfl rfl rfl rfl rfl rfl rfl ?hb (fun X hX => ?_); (case hb => simp [hc]; done); simp [hc]; refine hX _ _ ?hadd ?_; (case hadd => simp; done); clear hX X)
      | (refine PreD_oF rfl rfl rfl rfl rfl ?hb ?_; (case hb => simp [hc]; done))
      | (refine RunD_nil ?_; refine hK _ _ ?_; clear hK K)
      | (refine RunD_nil ?_)
      | (refine PreD_nil ?_; refine hK _ _ ?_; clear hK K)
      | (refine WD_skip ?_)
      | (refine WD_exit ?_)
      | (refine WD_ret ?_)
      | (refine WD_true rfl ?hb ?_; (case hb => simp [hc]; done))
      | (refine WD_false rfl ?hb ?_; (case hb => simp [hc]; done))
      | (refine hK.1 _ _ ?_; clear hK K)
      | (refine hK.2.1 _ _ ?_; clear hK K)
      | (refine hK.2 _ _ _ ?hne ?_; (case hne => simp; done); clear hK K)
      | (refine hK.2.2 _ _ _ ?hne ?_; (case hne => simp; done); clear hK K))
    exact done_ret rfl (by simp [hc])

set_option maxHeartbeats 4000000 in
theorem imAreChips_ok (h : Hp) (v : Value) (L : List (List Int)) (A : List Int) (hv : Chips h v L A) : CallOK Try.prog 18 #[v] h (.bool (goodB L A)) h := by
  refine call_P 96 _ [.tmp 2] Try.func18 rfl rfl rfl rfl ?_
  obtain ⟨s, c, s', c', rfl, hL, hA⟩ := hv.open
  repeat (first
    | (refine WD_block (fun K hK => ?_))
    | (refine WD_seq (fun K hK => ?_))
    | (refine WD_region (fun K hK => ?_))
    | (refine RunD_o rfl rfl rfl rfl rfl (fun X hX => ?_); simp; refine hX _ _ ?_; clear hX X)
    | (refine RunD_s rfl rfl rfl rfl (fun X hX => ?_); simp; refine hX _ _ ?_; clear hX X)
    | (refine RunD_oT rfl rfl rfl rfl rfl rfl rfl ?hb (fun X hX => ?_); (case hb => simp; done); simp; refine hX _ _ ?_; clear hX X)
    | (refine RunD_oF rfl rfl rfl rfl rfl ?hb ?_; (case hb => simp; done))
    | (refine RunD_oU (c := #[]) rfl rfl rfl rfl rfl ?hb ?_; (case hb => simp; rfl))
    | (refine PreD_oU (c := #[]) rfl rfl rfl rfl rfl ?hb ?_; (case hb => simp; rfl))
    | (refine PreD_o rfl rfl rfl rfl rfl (fun X hX => ?_); simp; refine hX _ _ ?hadd ?_; (case hadd => simp; done); clear hX X)
    | (refine PreD_oT rfl rfl rfl rfl rfl rfl rfl ?hb (fun X hX => ?_); (case hb => simp; done); simp; refine hX _ _ ?hadd ?_; (case hadd => simp; done); clear hX X)
    | (refine PreD_oF rfl rfl rfl rfl rfl ?hb ?_; (case hb => simp; done))
    | (refine RunD_nil ?_; refine hK _ _ ?_; clear hK K)
    | (refine RunD_nil ?_)
    | (refine PreD_nil ?_; refine hK _ _ ?_; clear hK K)
    | (refine WD_skip ?_)
    | (refine WD_exit ?_)
    | (refine WD_ret ?_)
    | (refine WD_true rfl ?hb ?_; (case hb => simp; done))
    | (refine WD_false rfl ?hb ?_; (case hb => simp; done))
    | (refine hK.1 _ _ ?_; clear hK K)
    | (refine hK.2.1 _ _ ?_; clear hK K)
    | (refine hK.2 _ _ _ ?hne ?_; (case hne => simp; done); clear hK K)
    | (refine hK.2.2 _ _ _ ?hne ?_; (case hne => simp; done); clear hK K))
  generalize hh : h.alloc (.cells [.slice s L.length c, .slice s' A.length c'] true true 1) = h0
  have g0 : h0.get h.next = .cells [.slice s L.length c, .slice s' A.length c'] true true 1 := by rw [← hh]; simp
  have k0 : Keeps h h0 := by rw [← hh]; simp
  replace hL := hL.keep k0
  replace hA := hA.keep k0
  have hsL := hL.short
  have hsA := hA.short
  by_cases c1 : 1 ≤ (A.length : Int) ∧ (A.length : Int) ≤ 5
  · have hc := fun H => within_ok H A.length 1 5
    rw [decide_eq_true c1] at hc
    refine RunD_c rfl rfl rfl rfl (by simp) (by simp) ?ha (hc _) ?_
    (case ha => simp)
    by_cases c2 : L.length = A.length
    · have c2b : ((L.length : Int) != (A.length : Int)) = false := by simp [c2]
      repeat (first
        | (refine WD_block (fun K hK => ?_))
        | (refine WD_seq (fun K hK => ?_))
        | (refine WD_region (fun K hK => ?_))
        | (refine RunD_o rfl rfl rfl rfl rfl (fun X hX => ?_); simp [g0, c2b]; refine hX _ _ ?_; clear hX X)
        | (refine RunD_s rfl rfl rfl rfl (fun X hX => ?_); simp [g0, c2b]; refine hX _ _ ?_; clear hX X)
        | (refine RunD_oT rfl rfl rfl rfl rfl rfl rfl ?hb (fun X hX => ?_); (case hb => simp [g0, c2b]; done); simp [g0, c2b]; refine hX _ _ ?_; clear hX X)
        | (refine RunD_oF rfl rfl rfl rfl rfl ?hb ?_; (case hb => simp [g0, c2b]; done))
        | (refine RunD_oU (c := #[]) rfl rfl rfl rfl rfl ?hb ?_; (case hb => simp [g0, c2b]; rfl))
        | (refine PreD_oU (c := #[]) rfl rfl rfl rfl rfl ?hb ?_; (case hb => simp [g0, c2b]; rfl))
        | (refine PreD_o rfl rfl rfl rfl rfl (fun X hX => ?_); simp [g0, c2b]; refine hX _ _ ?hadd ?_; (case hadd => simp; done); clear hX X)
        | (refine PreD_oT rfl rfl rfl rfl rfl rfl rfl ?hb (fun X hX => ?_); (case hb => simp [g0, c2b]; done); simp [g0, c2b]; refine hX _ _ ?hadd ?_; (case hadd => simp; done); clear hX X)
        | (refine PreD_oF rfl rfl rfl rfl rfl ?hb ?_; (case hb => simp [g0, c2b]; done))
        | (refine RunD_nil ?_; refine hK _ _ ?_; clear hK K)
        | (refine RunD_nil ?_)
        | (refine PreD_nil ?_; refine hK _ _ ?_; clear hK K)
        | (refine WD_skip ?_)
        | (refine WD_exit ?_)
        | (refine WD_ret ?_)
        | (refine WD_true rfl ?hb ?_; (case hb => simp [g0, c2b]; done))
        | (refine WD_false rfl ?hb ?_; (case hb => simp [g0, c2b]; done))
        | (refine hK.1 _ _ ?_; clear hK K)
        | (refine hK.2.1 _ _ ?_; clear hK K)
        | (refine hK.2 _ _ _ ?hne ?_; (case hne => simp; done); clear hK K)
        | (refine hK.2.2 _ _ _ ?hne ?_; (case hne => simp; done); clear hK K))
      refine WD_loop (fun m tm h' => ∃ j, j ≤ A.length ∧ m = A.length - j ∧ h0 = h' ∧ (∀ i (hi : i < L.length), i < j → L[i].length = A.length) ∧ (∀ i (hi : i < A.length), i < j → 0 ≤ A[i] ∧ A[i] ≤ 30) ∧ 0 ≤ (A.take j).sum ∧ (A.take j).sum ≤ 30 * (j : Int) ∧ tm 1 = .pointer (some ⟨h.next, 0, none⟩) ∧ tm 3 = .int .i64 A.length ∧ tm 4 = .int .i64 (A.take j).sum ∧ tm 25 = .slice s L.length c ∧ tm 26 = .int .i64 L.length ∧ tm 27 = .int .i64 (j : Int)) _
        ⟨0, by simp, rfl, rfl, by simp, by simp, by simp, by simp, by simp, by simp, by simp, by simp, by simp, by simp⟩ ?_
      rintro m tm h' ⟨j, hj, rfl, rfl, hx, hx2, s0, s1, e1, e3, e4, e25, e26, e27⟩ K hK
      by_cases hlt : j < A.length
      · have hlt2 : j < L.length := by omega
        obtain ⟨o, i, d, ds, own, ex, es, u, e', hg, hi, hcell, hu⟩ := hL.at hlt2
        obtain ⟨o2, i2, d2, ds2, own2, ex2, es2, e2', hg2, hi2, hcell2⟩ := hA.at hlt
        obtain ⟨s3, d3, f3, _, _⟩ := hu.form
        subst f3
        cases e'
        cases e2'
        by_cases d1 : L[j].length = A.length
        · have d1b : ((L[j].length : Int) != (A.length : Int)) = false := by simp [d1]
          repeat (first
            | (refine WD_block (fun K hK => ?_))
            | (refine WD_seq (fun K hK => ?_))
            | (refine WD_region (fun K hK => ?_))
            | (refine RunD_o rfl rfl rfl rfl rfl (fun X hX => ?_); simp [e1, e3, e4, e25, e26, e27, hlt, hlt2, hg, hi, hcell, hg2, hi2, hcell2, g0, d1b]; refine hX _ _ ?_; clear hX X)
            | (refine RunD_s rfl rfl rfl rfl (fun X hX => ?_); simp [e1, e3, e4, e25, e26, e27, hlt, hlt2, hg, hi, hcell, hg2, hi2, hcell2, g0, d1b]; refine hX _ _ ?_; clear hX X)
            | (refine RunD_oT rfl rfl rfl rfl rfl rfl rfl ?hb (fun X hX => ?_); (case hb => simp [e1, e3, e4, e25, e26, e27, hlt, hlt2, hg, hi, hcell, hg2, hi2, hcell2, g0, d1b]; done); simp [e1, e3, e4, e25, e26, e27, hlt, hlt2, hg, hi, hcell, hg2, hi2, hcell2, g0, d1b]; refine hX _ _ ?_; clear hX X)
            | (refine RunD_oF rfl rfl rfl rfl rfl ?hb ?_; (case hb => simp [e1, e3, e4, e25, e26, e27, hlt, hlt2, hg, hi, hcell, hg2, hi2, hcell2, g0, d1b]; done))
            | (refine RunD_oU (c := #[]) rfl rfl rfl rfl rfl ?hb ?_; (case hb => simp [e1, e3, e4, e25, e26, e27, hlt, hlt2, hg, hi, hcell, hg2, hi2, hcell2, g0, d1b]; rfl))
            | (refine PreD_oU (c := #[]) rfl rfl rfl rfl rfl ?hb ?_; (case hb => simp [e1, e3, e4, e25, e26, e27, hlt, hlt2, hg, hi, hcell, hg2, hi2, hcell2, g0, d1b]; rfl))
            | (refine PreD_o rfl rfl rfl rfl rfl (fun X hX => ?_); simp [e1, e3, e4, e25, e26, e27, hlt, hlt2, hg, hi, hcell, hg2, hi2, hcell2, g0, d1b]; refine hX _ _ ?hadd ?_; (case hadd => simp; done); clear hX X)
            | (refine PreD_oT rfl rfl rfl rfl rfl rfl rfl ?hb (fun X hX => ?_); (case hb => simp [e1, e3, e4, e25, e26, e27, hlt, hlt2, hg, hi, hcell, hg2, hi2, hcell2, g0, d1b]; done); simp [e1, e3, e4, e25, e26, e27, hlt, hlt2, hg, hi, hcell, hg2, hi2, hcell2, g0, d1b]; refine hX _ _ ?hadd ?_; (case hadd => simp; done); clear hX X)
            | (refine PreD_oF rfl rfl rfl rfl rfl ?hb ?_; (case hb => simp [e1, e3, e4, e25, e26, e27, hlt, hlt2, hg, hi, hcell, hg2, hi2, hcell2, g0, d1b]; done))
            | (refine RunD_nil ?_; refine hK _ _ ?_; clear hK K)
            | (refine RunD_nil ?_)
            | (refine PreD_nil ?_; refine hK _ _ ?_; clear hK K)
            | (refine WD_skip ?_)
            | (refine WD_exit ?_)
            | (refine WD_ret ?_)
            | (refine WD_true rfl ?hb ?_; (case hb => simp [e1, e3, e4, e25, e26, e27, hlt, hlt2, hg, hi, hcell, hg2, hi2, hcell2, g0, d1b]; done))
            | (refine WD_false rfl ?hb ?_; (case hb => simp [e1, e3, e4, e25, e26, e27, hlt, hlt2, hg, hi, hcell, hg2, hi2, hcell2, g0, d1b]; done))
            | (refine hK.1 _ _ ?_; clear hK K)
            | (refine hK.2.1 _ _ ?_; clear hK K)
            | (refine hK.2 _ _ _ ?hne ?_; (case hne => simp; done); clear hK K)
            | (refine hK.2.2 _ _ _ ?hne ?_; (case hne => simp; done); clear hK K))
          have hc := within_ok h0 A[j] 0 30
          by_cases b2 : 0 ≤ A[j] ∧ A[j] ≤ 30
          · rw [decide_eq_true b2] at hc
            refine RunD_cT rfl rfl rfl rfl rfl rfl ?hb (by simp) (by simp) ?ha (hc) ?_
            (case hb => simp [d1b])
            (case ha => simp [d1b])
            have hw := wrap64 (x := (A.take j).sum + A[j]) (by omega) (by omega)
            repeat (first
              | (refine WD_block (fun K hK => ?_))
              | (refine WD_seq (fun K hK => ?_))
              | (refine WD_region (fun K hK => ?_))
              | (refine RunD_o rfl rfl rfl rfl rfl (fun X hX => ?_); simp [e1, e3, e4, e25, e26, e27, hlt, hlt2, hg, hi, hcell, hg2, hi2, hcell2, g0, hw]; refine hX _ _ ?_; clear hX X)
              | (refine RunD_s rfl rfl rfl rfl (fun X hX => ?_); simp [e1, e3, e4, e25, e26, e27, hlt, hlt2, hg, hi, hcell, hg2, hi2, hcell2, g0, hw]; refine hX _ _ ?_; clear hX X)
              | (refine RunD_oT rfl rfl rfl rfl rfl rfl rfl ?hb (fun X hX => ?_); (case hb => simp [e1, e3, e4, e25, e26, e27, hlt, hlt2, hg, hi, hcell, hg2, hi2, hcell2, g0, hw]; done); simp [e1, e3, e4, e25, e26, e27, hlt, hlt2, hg, hi, hcell, hg2, hi2, hcell2, g0, hw]; refine hX _ _ ?_; clear hX X)
              | (refine RunD_oF rfl rfl rfl rfl rfl ?hb ?_; (case hb => simp [e1, e3, e4, e25, e26, e27, hlt, hlt2, hg, hi, hcell, hg2, hi2, hcell2, g0, hw]; done))
              | (refine RunD_oU (c := #[]) rfl rfl rfl rfl rfl ?hb ?_; (case hb => simp [e1, e3, e4, e25, e26, e27, hlt, hlt2, hg, hi, hcell, hg2, hi2, hcell2, g0, hw]; rfl))
              | (refine PreD_oU (c := #[]) rfl rfl rfl rfl rfl ?hb ?_; (case hb => simp [e1, e3, e4, e25, e26, e27, hlt, hlt2, hg, hi, hcell, hg2, hi2, hcell2, g0, hw]; rfl))
              | (refine PreD_o rfl rfl rfl rfl rfl (fun X hX => ?_); simp [e1, e3, e4, e25, e26, e27, hlt, hlt2, hg, hi, hcell, hg2, hi2, hcell2, g0, hw]; refine hX _ _ ?hadd ?_; (case hadd => simp; done); clear hX X)
              | (refine PreD_oT rfl rfl rfl rfl rfl rfl rfl ?hb (fun X hX => ?_); (case hb => simp [e1, e3, e4, e25, e26, e27, hlt, hlt2, hg, hi, hcell, hg2, hi2, hcell2, g0, hw]; done); simp [e1, e3, e4, e25, e26, e27, hlt, hlt2, hg, hi, hcell, hg2, hi2, hcell2, g0, hw]; refine hX _ _ ?hadd ?_; (case hadd => simp; done); clear hX X)
              | (refine PreD_oF rfl rfl rfl rfl rfl ?hb ?_; (case hb => simp [e1, e3, e4, e25, e26, e27, hlt, hlt2, hg, hi, hcell, hg2, hi2, hcell2, g0, hw]; done))
              | (refine RunD_nil ?_; refine hK _ _ ?_; clear hK K)
              | (refine RunD_nil ?_)
              | (refine PreD_nil ?_; refine hK _ _ ?_; clear hK K)
              | (refine WD_skip ?_)
              | (refine WD_exit ?_)
              | (refine WD_ret ?_)
              | (refine WD_true rfl ?hb ?_; (case hb => simp [e1, e3, e4, e25, e26, e27, hlt, hlt2, hg, hi, hcell, hg2, hi2, hcell2, g0, hw]; done))
              | (refine WD_false rfl ?hb ?_; (case hb => simp [e1, e3, e4, e25, e26, e27, hlt, hlt2, hg, hi, hcell, hg2, hi2, hcell2, g0, hw]; done))
              | (refine hK.1 _ _ ?_; clear hK K)
              | (refine hK.2.1 _ _ ?_; clear hK K)
              | (refine hK.2 _ _ _ ?hne ?_; (case hne => simp; done); clear hK K)
              | (refine hK.2.2 _ _ _ ?hne ?_; (case hne => simp; done); clear hK K))
            refine hK.1 (A.length - (j + 1)) _ _ (by omega) ⟨j + 1, by omega, rfl, rfl, fun i hi hij => ?_, fun i hi hij => ?_, by rw [sum_step hlt]; omega, by rw [sum_step hlt]; push_cast; omega, by simp [e1], by simp [e3], by simp [sum_step hlt], by simp [e25], by simp [e26], ?_⟩
            · rcases Nat.lt_succ_iff_lt_or_eq.1 hij with q | q
              · exact hx i hi q
              · subst q; exact d1
            · rcases Nat.lt_succ_iff_lt_or_eq.1 hij with q | q
              · exact hx2 i hi q
              · subst q; exact b2
            · simp; exact wrap64 (by omega) (by omega)
          · rw [decide_eq_false b2] at hc
            refine RunD_cT rfl rfl rfl rfl rfl rfl ?hb (by simp) (by simp) ?ha (hc) ?_
            (case hb => simp [d1b])
            (case ha => simp [d1b])
            repeat (first
              | (refine WD_block (fun K hK => ?_))
              | (refine WD_seq (fun K hK => ?_))
              | (refine WD_region (fun K hK => ?_))
              | (refine RunD_o rfl rfl rfl rfl rfl (fun X hX => ?_); simp [e27]; refine hX _ _ ?_; clear hX X)
              | (refine RunD_s rfl rfl rfl rfl (fun X hX => ?_); simp [e27]; refine hX _ _ ?_; clear hX X)
              | (refine RunD_oT rfl rfl rfl rfl rfl rfl rfl ?hb (fun X hX => ?_); (case hb => simp [e27]; done); simp [e27]; refine hX _ _ ?_; clear hX X)
              | (refine RunD_oF rfl rfl rfl rfl rfl ?hb ?_; (case hb => simp [e27]; done))
              | (refine RunD_oU (c := #[]) rfl rfl rfl rfl rfl ?hb ?_; (case hb => simp [e27]; rfl))
              | (refine PreD_oU (c := #[]) rfl rfl rfl rfl rfl ?hb ?_; (case hb => simp [e27]; rfl))
              | (refine PreD_o rfl rfl rfl rfl rfl (fun X hX => ?_); simp [e27]; refine hX _ _ ?hadd ?_; (case hadd => simp; done); clear hX X)
              | (refine PreD_oT rfl rfl rfl rfl rfl rfl rfl ?hb (fun X hX => ?_); (case hb => simp [e27]; done); simp [e27]; refine hX _ _ ?hadd ?_; (case hadd => simp; done); clear hX X)
              | (refine PreD_oF rfl rfl rfl rfl rfl ?hb ?_; (case hb => simp [e27]; done))
              | (refine RunD_nil ?_; refine hK _ _ ?_; clear hK K)
              | (refine RunD_nil ?_)
              | (refine PreD_nil ?_; refine hK _ _ ?_; clear hK K)
              | (refine WD_skip ?_)
              | (refine WD_exit ?_)
              | (refine WD_ret ?_)
              | (refine WD_true rfl ?hb ?_; (case hb => simp [e27]; done))
              | (refine WD_false rfl ?hb ?_; (case hb => simp [e27]; done))
              | (refine hK.1 _ _ ?_; clear hK K)
              | (refine hK.2.1 _ _ ?_; clear hK K)
              | (refine hK.2 _ _ _ ?hne ?_; (case hne => simp; done); clear hK K)
              | (refine hK.2.2 _ _ _ ?hne ?_; (case hne => simp; done); clear hK K))
            exact done_ret rfl (by rw [goodB_false fun q => b2 (q.2.2.1 _ (List.getElem_mem hlt))]; simp [k0])
        · have d1b : ((L[j].length : Int) != (A.length : Int)) = true := by simp [d1]
          repeat (first
            | (refine WD_block (fun K hK => ?_))
            | (refine WD_seq (fun K hK => ?_))
            | (refine WD_region (fun K hK => ?_))
            | (refine RunD_o rfl rfl rfl rfl rfl (fun X hX => ?_); simp [e1, e3, e4, e25, e26, e27, hlt, hlt2, hg, hi, hcell, hg2, hi2, hcell2, g0, d1b]; refine hX _ _ ?_; clear hX X)
            | (refine RunD_s rfl rfl rfl rfl (fun X hX => ?_); simp [e1, e3, e4, e25, e26, e27, hlt, hlt2, hg, hi, hcell, hg2, hi2, hcell2, g0, d1b]; refine hX _ _ ?_; clear hX X)
            | (refine RunD_oT rfl rfl rfl rfl rfl rfl rfl ?hb (fun X hX => ?_); (case hb => simp [e1, e3, e4, e25, e26, e27, hlt, hlt2, hg, hi, hcell, hg2, hi2, hcell2, g0, d1b]; done); simp [e1, e3, e4, e25, e26, e27, hlt, hlt2, hg, hi, hcell, hg2, hi2, hcell2, g0, d1b]; refine hX _ _ ?_; clear hX X)
            | (refine RunD_oF rfl rfl rfl rfl rfl ?hb ?_; (case hb => simp [e1, e3, e4, e25, e26, e27, hlt, hlt2, hg, hi, hcell, hg2, hi2, hcell2, g0, d1b]; done))
            | (refine RunD_oU (c := #[]) rfl rfl rfl rfl rfl ?hb ?_; (case hb => simp [e1, e3, e4, e25, e26, e27, hlt, hlt2, hg, hi, hcell, hg2, hi2, hcell2, g0, d1b]; rfl))
            | (refine PreD_oU (c := #[]) rfl rfl rfl rfl rfl ?hb ?_; (case hb => simp [e1, e3, e4, e25, e26, e27, hlt, hlt2, hg, hi, hcell, hg2, hi2, hcell2, g0, d1b]; rfl))
            | (refine PreD_o rfl rfl rfl rfl rfl (fun X hX => ?_); simp [e1, e3, e4, e25, e26, e27, hlt, hlt2, hg, hi, hcell, hg2, hi2, hcell2, g0, d1b]; refine hX _ _ ?hadd ?_; (case hadd => simp; done); clear hX X)
            | (refine PreD_oT rfl rfl rfl rfl rfl rfl rfl ?hb (fun X hX => ?_); (case hb => simp [e1, e3, e4, e25, e26, e27, hlt, hlt2, hg, hi, hcell, hg2, hi2, hcell2, g0, d1b]; done); simp [e1, e3, e4, e25, e26, e27, hlt, hlt2, hg, hi, hcell, hg2, hi2, hcell2, g0, d1b]; refine hX _ _ ?hadd ?_; (case hadd => simp; done); clear hX X)
            | (refine PreD_oF rfl rfl rfl rfl rfl ?hb ?_; (case hb => simp [e1, e3, e4, e25, e26, e27, hlt, hlt2, hg, hi, hcell, hg2, hi2, hcell2, g0, d1b]; done))
            | (refine RunD_nil ?_; refine hK _ _ ?_; clear hK K)
            | (refine RunD_nil ?_)
            | (refine PreD_nil ?_; refine hK _ _ ?_; clear hK K)
            | (refine WD_skip ?_)
            | (refine WD_exit ?_)
            | (refine WD_ret ?_)
            | (refine WD_true rfl ?hb ?_; (case hb => simp [e1, e3, e4, e25, e26, e27, hlt, hlt2, hg, hi, hcell, hg2, hi2, hcell2, g0, d1b]; done))
            | (refine WD_false rfl ?hb ?_; (case hb => simp [e1, e3, e4, e25, e26, e27, hlt, hlt2, hg, hi, hcell, hg2, hi2, hcell2, g0, d1b]; done))
            | (refine hK.1 _ _ ?_; clear hK K)
            | (refine hK.2.1 _ _ ?_; clear hK K)
            | (refine hK.2 _ _ _ ?hne ?_; (case hne => simp; done); clear hK K)
            | (refine hK.2.2 _ _ _ ?hne ?_; (case hne => simp; done); clear hK K))
          exact done_ret rfl (by rw [goodB_false fun q => d1 (q.2.2.2.1 _ (List.getElem_mem hlt2)).1]; simp [k0])
      · have hlt2 : ¬ j < L.length := by omega
        repeat (first
          | (refine WD_block (fun K hK => ?_))
          | (refine WD_seq (fun K hK => ?_))
          | (refine WD_region (fun K hK => ?_))
          | (refine RunD_o rfl rfl rfl rfl rfl (fun X hX => ?_); simp [e1, e3, e4, e25, e26, e27, hlt, hlt2, g0]; refine hX _ _ ?_; clear hX X)
          | (refine RunD_s rfl rfl rfl rfl (fun X hX => ?_); simp [e1, e3, e4, e25, e26, e27, hlt, hlt2, g0]; refine hX _ _ ?_; clear hX X)
          | (refine RunD_oT rfl rfl rfl rfl rfl rfl rfl ?hb (fun X hX => ?_); (case hb => simp [e1, e3, e4, e25, e26, e27, hlt, hlt2, g0]; done); simp [e1, e3, e4, e25, e26, e27, hlt, hlt2, g0]; refine hX _ _ ?_; clear hX X)
          | (refine RunD_oF rfl rfl rfl rfl rfl ?hb ?_; (case hb => simp [e1, e3, e4, e25, e26, e27, hlt, hlt2, g0]; done))
          | (refine RunD_oU (c := #[]) rfl rfl rfl rfl rfl ?hb ?_; (case hb => simp [e1, e3, e4, e25, e26, e27, hlt, hlt2, g0]; rfl))
          | (refine PreD_oU (c := #[]) rfl rfl rfl rfl rfl ?hb ?_; (case hb => simp [e1, e3, e4, e25, e26, e27, hlt, hlt2, g0]; rfl))
          | (refine PreD_o rfl rfl rfl rfl rfl (fun X hX => ?_); simp [e1, e3, e4, e25, e26, e27, hlt, hlt2, g0]; refine hX _ _ ?hadd ?_; (case hadd => simp; done); clear hX X)
          | (refine PreD_oT rfl rfl rfl rfl rfl rfl rfl ?hb (fun X hX => ?_); (case hb => simp [e1, e3, e4, e25, e26, e27, hlt, hlt2, g0]; done); simp [e1, e3, e4, e25, e26, e27, hlt, hlt2, g0]; refine hX _ _ ?hadd ?_; (case hadd => simp; done); clear hX X)
          | (refine PreD_oF rfl rfl rfl rfl rfl ?hb ?_; (case hb => simp [e1, e3, e4, e25, e26, e27, hlt, hlt2, g0]; done))
          | (refine RunD_nil ?_; refine hK _ _ ?_; clear hK K)
          | (refine RunD_nil ?_)
          | (refine PreD_nil ?_; refine hK _ _ ?_; clear hK K)
          | (refine WD_skip ?_)
          | (refine WD_exit ?_)
          | (refine WD_ret ?_)
          | (refine WD_true rfl ?hb ?_; (case hb => simp [e1, e3, e4, e25, e26, e27, hlt, hlt2, g0]; done))
          | (refine WD_false rfl ?hb ?_; (case hb => simp [e1, e3, e4, e25, e26, e27, hlt, hlt2, g0]; done))
          | (refine hK.1 _ _ ?_; clear hK K)
          | (refine hK.2.1 _ _ ?_; clear hK K)
          | (refine hK.2 _ _ _ ?hne ?_; (case hne => simp; done); clear hK K)
          | (refine hK.2.2 _ _ _ ?hne ?_; (case hne => simp; done); clear hK K))
        have hj' : j = A.length := by omega
        subst hj'
        rw [List.take_length] at e4
        have c3 : ∀ x ∈ A, 0 ≤ x ∧ x ≤ 30 := fun x hx' => by
          obtain ⟨i, hi, rfl⟩ := List.getElem_of_mem hx'
          exact hx2 i hi hi
        have hrow : ∀ i (hi : i < L.length), L[i].length = A.length := fun i hi => hx i hi (by omega)
        refine WD_loop (fun m tm h' => ∃ j, j ≤ L.length ∧ m = L.length - j ∧ h0 = h' ∧ (∀ i (hi : i < L.length), i < j → ∀ k, (hk : k < L[i].length) → (0 ≤ L[i][k] ∧ L[i][k] ≤ 3) ∧ el L i k = el L k i ∧ (i = k → el L i k = 0)) ∧ tm 1 = .pointer (some ⟨h.next, 0, none⟩) ∧ tm 4 = .int .i64 A.sum ∧ tm 54 = .slice s L.length c ∧ tm 55 = .int .i64 L.length ∧ tm 56 = .int .i64 (j : Int)) _
          ⟨0, by simp, rfl, rfl, by simp, by simp [e1], by simp [e4], by simp, by simp, by simp⟩ ?_
        rintro m tm h' ⟨j, hj, rfl, rfl, hy, e1, e4, e54, e55, e56⟩ K hK
        by_cases hlt : j < L.length
        · obtain ⟨o, i, d, ds, own, ex, es, u, e', hg, hi, hcell, hu⟩ := hL.at hlt
          obtain ⟨s3, d3, f3, _, _⟩ := hu.form
          subst f3
          cases e'
          have hrj := hrow j hlt
          repeat (first
            | (refine WD_block (fun K hK => ?_))
            | (refine WD_seq (fun K hK => ?_))
            | (refine WD_region (fun K hK => ?_))
            | (refine RunD_o rfl rfl rfl rfl rfl (fun X hX => ?_); simp [e1, e4, e54, e55, e56, hlt, hg, hi, hcell]; refine hX _ _ ?_; clear hX X)
            | (refine RunD_s rfl rfl rfl rfl (fun X hX => ?_); simp [e1, e4, e54, e55, e56, hlt, hg, hi, hcell]; refine hX _ _ ?_; clear hX X)
            | (refine RunD_oT rfl rfl rfl rfl rfl rfl rfl ?hb (fun X hX => ?_); (case hb => simp [e1, e4, e54, e55, e56, hlt, hg, hi, hcell]; done); simp [e1, e4, e54, e55, e56, hlt, hg, hi, hcell]; refine hX _ _ ?_; clear hX X)
            | (refine RunD_oF rfl rfl rfl rfl rfl ?hb ?_; (case hb => simp [e1, e4, e54, e55, e56, hlt, hg, hi, hcell]; done))
            | (refine RunD_oU (c := #[]) rfl rfl rfl rfl rfl ?hb ?_; (case hb => simp [e1, e4, e54, e55, e56, hlt, hg, hi, hcell]; rfl))
            | (refine PreD_oU (c := #[]) rfl rfl rfl rfl rfl ?hb ?_; (case hb => simp [e1, e4, e54, e55, e56, hlt, hg, hi, hcell]; rfl))
            | (refine PreD_o rfl rfl rfl rfl rfl (fun X hX => ?_); simp [e1, e4, e54, e55, e56, hlt, hg, hi, hcell]; refine hX _ _ ?hadd ?_; (case hadd => simp; done); clear hX X)
            | (refine PreD_oT rfl rfl rfl rfl rfl rfl rfl ?hb (fun X hX => ?_); (case hb => simp [e1, e4, e54, e55, e56, hlt, hg, hi, hcell]; done); simp [e1, e4, e54, e55, e56, hlt, hg, hi, hcell]; refine hX _ _ ?hadd ?_; (case hadd => simp; done); clear hX X)
            | (refine PreD_oF rfl rfl rfl rfl rfl ?hb ?_; (case hb => simp [e1, e4, e54, e55, e56, hlt, hg, hi, hcell]; done))
            | (refine RunD_nil ?_; refine hK _ _ ?_; clear hK K)
            | (refine RunD_nil ?_)
            | (refine PreD_nil ?_; refine hK _ _ ?_; clear hK K)
            | (refine WD_skip ?_)
            | (refine WD_exit ?_)
            | (refine WD_ret ?_)
            | (refine WD_true rfl ?hb ?_; (case hb => simp [e1, e4, e54, e55, e56, hlt, hg, hi, hcell]; done))
            | (refine WD_false rfl ?hb ?_; (case hb => simp [e1, e4, e54, e55, e56, hlt, hg, hi, hcell]; done))
            | (refine hK.1 _ _ ?_; clear hK K)
            | (refine hK.2.1 _ _ ?_; clear hK K)
            | (refine hK.2 _ _ _ ?hne ?_; (case hne => simp; done); clear hK K)
            | (refine hK.2.2 _ _ _ ?hne ?_; (case hne => simp; done); clear hK K))
          refine WD_loop (fun m tm h' => ∃ k, k ≤ L[j].length ∧ m = L[j].length - k ∧ h0 = h' ∧ (∀ i (hi : i < L[j].length), i < k → (0 ≤ L[j][i] ∧ L[j][i] ≤ 3) ∧ el L j i = el L i j ∧ (j = i → el L j i = 0)) ∧ tm 1 = .pointer (some ⟨h.next, 0, none⟩) ∧ tm 4 = .int .i64 A.sum ∧ tm 54 = .slice (some ⟨o, i, none⟩) L.length c ∧ tm 55 = .int .i64 L.length ∧ tm 56 = .int .i64 (j : Int) ∧ tm 7 = .int .i64 (j : Int) ∧ tm 61 = .slice s3 L[j].length d3 ∧ tm 62 = .int .i64 L[j].length ∧ tm 63 = .int .i64 (k : Int)) _
            ⟨0, by simp, rfl, rfl, by simp, by simp [e1], by simp [e4], by simp [e54], by simp [e55], by simp [e56], by simp, by simp, by simp, by simp⟩ ?_
          rintro m tm h' ⟨k, hk, rfl, rfl, hz, e1, e4, e54, e55, e56, e7, e61, e62, e63⟩ K hK
          by_cases hlt3 : k < L[j].length
          · have hkL : k < L.length := by omega
            obtain ⟨o2, i2, d2, ds2, own2, ex2, es2, e2', hg2, hi2, hcell2⟩ := hu.at hlt3
            obtain ⟨o5, i5, d5, ds5, own5, ex5, es5, u5, e5', hg5, hi5, hcell5, hu5⟩ := hL.at hkL
            cases e2'
            cases e5'
            have hrk := hrow k hkL
            have hjk : j < L[k].length := by omega
            obtain ⟨o6, i6, d6, ds6, own6, ex6, es6, e6', hg6, hi6, hcell6⟩ := hu5.at hjk
            subst e6'
            have ed1 := el_eq hlt hlt3
            have ed2 := el_eq hkL hjk
            repeat (first
              | (refine WD_block (fun K hK => ?_))
              | (refine WD_seq (fun K hK => ?_))
              | (refine WD_region (fun K hK => ?_))
              | (refine RunD_o rfl rfl rfl rfl rfl (fun X hX => ?_); simp [e1, e4, e54, e55, e56, e7, e61, e62, e63, hlt3, hg2, hi2, hcell2]; refine hX _ _ ?_; clear hX X)
              | (refine RunD_s rfl rfl rfl rfl (fun X hX => ?_); simp [e1, e4, e54, e55, e56, e7, e61, e62, e63, hlt3, hg2, hi2, hcell2]; refine hX _ _ ?_; clear hX X)
              | (refine RunD_oT rfl rfl rfl rfl rfl rfl rfl ?hb (fun X hX => ?_); (case hb => simp [e1, e4, e54, e55, e56, e7, e61, e62, e63, hlt3, hg2, hi2, hcell2]; done); simp [e1, e4, e54, e55, e56, e7, e61, e62, e63, hlt3, hg2, hi2, hcell2]; refine hX _ _ ?_; clear hX X)
              | (refine RunD_oF rfl rfl rfl rfl rfl ?hb ?_; (case hb => simp [e1, e4, e54, e55, e56, e7, e61, e62, e63, hlt3, hg2, hi2, hcell2]; done))
              | (refine RunD_oU (c := #[]) rfl rfl rfl rfl rfl ?hb ?_; (case hb => simp [e1, e4, e54, e55, e56, e7, e61, e62, e63, hlt3, hg2, hi2, hcell2]; rfl))
              | (refine PreD_oU (c := #[]) rfl rfl rfl rfl rfl ?hb ?_; (case hb => simp [e1, e4, e54, e55, e56, e7, e61, e62, e63, hlt3, hg2, hi2, hcell2]; rfl))
              | (refine PreD_o rfl rfl rfl rfl rfl (fun X hX => ?_); simp [e1, e4, e54, e55, e56, e7, e61, e62, e63, hlt3, hg2, hi2, hcell2]; refine hX _ _ ?hadd ?_; (case hadd => simp; done); clear hX X)
              | (refine PreD_oT rfl rfl rfl rfl rfl rfl rfl ?hb (fun X hX => ?_); (case hb => simp [e1, e4, e54, e55, e56, e7, e61, e62, e63, hlt3, hg2, hi2, hcell2]; done); simp [e1, e4, e54, e55, e56, e7, e61, e62, e63, hlt3, hg2, hi2, hcell2]; refine hX _ _ ?hadd ?_; (case hadd => simp; done); clear hX X)
              | (refine PreD_oF rfl rfl rfl rfl rfl ?hb ?_; (case hb => simp [e1, e4, e54, e55, e56, e7, e61, e62, e63, hlt3, hg2, hi2, hcell2]; done))
              | (refine RunD_nil ?_; refine hK _ _ ?_; clear hK K)
              | (refine RunD_nil ?_)
              | (refine PreD_nil ?_; refine hK _ _ ?_; clear hK K)
              | (refine WD_skip ?_)
              | (refine WD_exit ?_)
              | (refine WD_ret ?_)
              | (refine WD_true rfl ?hb ?_; (case hb => simp [e1, e4, e54, e55, e56, e7, e61, e62, e63, hlt3, hg2, hi2, hcell2]; done))
              | (refine WD_false rfl ?hb ?_; (case hb => simp [e1, e4, e54, e55, e56, e7, e61, e62, e63, hlt3, hg2, hi2, hcell2]; done))
              | (refine hK.1 _ _ ?_; clear hK K)
              | (refine hK.2.1 _ _ ?_; clear hK K)
              | (refine hK.2 _ _ _ ?hne ?_; (case hne => simp; done); clear hK K)
              | (refine hK.2.2 _ _ _ ?hne ?_; (case hne => simp; done); clear hK K))
            have hc := within_ok h0 L[j][k] 0 3
            by_cases b2 : 0 ≤ L[j][k] ∧ L[j][k] ≤ 3
            · rw [decide_eq_true b2] at hc
              refine RunD_c rfl rfl rfl rfl (by simp) (by simp) ?ha (hc) ?_
              (case ha => simp)
              by_cases hq : L[j][k] = L[k][j]
              · have hqb : (L[j][k] != L[k][j]) = false := by simp [hq]
                by_cases hjk2 : j = k
                · have hjb : ((j : Int) == (k : Int)) = true := by simp [hjk2]
                  by_cases hz0 : L[j][k] = 0
                  · have hzb : (L[j][k] != 0) = false := by simp [hz0]
                    repeat (first
                      | (refine WD_block (fun K hK => ?_))
                      | (refine WD_seq (fun K hK => ?_))
                      | (refine WD_region (fun K hK => ?_))
                      | (refine RunD_o rfl rfl rfl rfl rfl (fun X hX => ?_); simp [e1, e4, e54, e55, e56, e7, e61, e62, e63, hkL, hjk, hg5, hi5, hcell5, hg6, hi6, hcell6, g0, hqb, hjb, hzb]; refine hX _ _ ?_; clear hX X)
                      | (refine RunD_s rfl rfl rfl rfl (fun X hX => ?_); simp [e1, e4, e54, e55, e56, e7, e61, e62, e63, hkL, hjk, hg5, hi5, hcell5, hg6, hi6, hcell6, g0, hqb, hjb, hzb]; refine hX _ _ ?_; clear hX X)
                      | (refine RunD_oT rfl rfl rfl rfl rfl rfl rfl ?hb (fun X hX => ?_); (case hb => simp [e1, e4, e54, e55, e56, e7, e61, e62, e63, hkL, hjk, hg5, hi5, hcell5, hg6, hi6, hcell6, g0, hqb, hjb, hzb]; done); simp [e1, e4, e54, e55, e56, e7, e61, e62, e63, hkL, hjk, hg5, hi5, hcell5, hg6, hi6, hcell6, g0, hqb, hjb, hzb]; refine hX _ _ ?_; clear hX X)
                      | (refine RunD_oF rfl rfl rfl rfl rfl ?hb ?_; (case hb => simp [e1, e4, e54, e55, e56, e7, e61, e62, e63, hkL, hjk, hg5, hi5, hcell5, hg6, hi6, hcell6, g0, hqb, hjb, hzb]; done))
                      | (refine RunD_oU (c := #[]) rfl rfl rfl rfl rfl ?hb ?_; (case hb => simp [e1, e4, e54, e55, e56, e7, e61, e62, e63, hkL, hjk, hg5, hi5, hcell5, hg6, hi6, hcell6, g0, hqb, hjb, hzb]; rfl))
                      | (refine PreD_oU (c := #[]) rfl rfl rfl rfl rfl ?hb ?_; (case hb => simp [e1, e4, e54, e55, e56, e7, e61, e62, e63, hkL, hjk, hg5, hi5, hcell5, hg6, hi6, hcell6, g0, hqb, hjb, hzb]; rfl))
                      | (refine PreD_o rfl rfl rfl rfl rfl (fun X hX => ?_); simp [e1, e4, e54, e55, e56, e7, e61, e62, e63, hkL, hjk, hg5, hi5, hcell5, hg6, hi6, hcell6, g0, hqb, hjb, hzb]; refine hX _ _ ?hadd ?_; (case hadd => simp; done); clear hX X)
                      | (refine PreD_oT rfl rfl rfl rfl rfl rfl rfl ?hb (fun X hX => ?_); (case hb => simp [e1, e4, e54, e55, e56, e7, e61, e62, e63, hkL, hjk, hg5, hi5, hcell5, hg6, hi6, hcell6, g0, hqb, hjb, hzb]; done); simp [e1, e4, e54, e55, e56, e7, e61, e62, e63, hkL, hjk, hg5, hi5, hcell5, hg6, hi6, hcell6, g0, hqb, hjb, hzb]; refine hX _ _ ?hadd ?_; (case hadd => simp; done); clear hX X)
                      | (refine PreD_oF rfl rfl rfl rfl rfl ?hb ?_; (case hb => simp [e1, e4, e54, e55, e56, e7, e61, e62, e63, hkL, hjk, hg5, hi5, hcell5, hg6, hi6, hcell6, g0, hqb, hjb, hzb]; done))
                      | (refine RunD_nil ?_; refine hK _ _ ?_; clear hK K)
                      | (refine RunD_nil ?_)
                      | (refine PreD_nil ?_; refine hK _ _ ?_; clear hK K)
                      | (refine WD_skip ?_)
                      | (refine WD_exit ?_)
                      | (refine WD_ret ?_)
                      | (refine WD_true rfl ?hb ?_; (case hb => simp [e1, e4, e54, e55, e56, e7, e61, e62, e63, hkL, hjk, hg5, hi5, hcell5, hg6, hi6, hcell6, g0, hqb, hjb, hzb]; done))
                      | (refine WD_false rfl ?hb ?_; (case hb => simp [e1, e4, e54, e55, e56, e7, e61, e62, e63, hkL, hjk, hg5, hi5, hcell5, hg6, hi6, hcell6, g0, hqb, hjb, hzb]; done))
                      | (refine hK.1 _ _ ?_; clear hK K)
                      | (refine hK.2.1 _ _ ?_; clear hK K)
                      | (refine hK.2 _ _ _ ?hne ?_; (case hne => simp; done); clear hK K)
                      | (refine hK.2.2 _ _ _ ?hne ?_; (case hne => simp; done); clear hK K))
                    refine hK.1 (L[j].length - (k + 1)) _ _ (by omega) ⟨k + 1, by omega, rfl, rfl, fun i hi hik => ?_, by simp [e1], by simp [e4], by simp [e54], by simp [e55], by simp [e56], by simp [e7], by simp [e61], by simp [e62], ?_⟩
                    · rcases Nat.lt_succ_iff_lt_or_eq.1 hik with q | q
                      · exact hz i hi q
                      · subst q; exact ⟨b2, by rw [ed1, ed2, hq], fun _ => by rw [ed1, hz0]⟩
                    · simp; exact wrap64 (by omega) (by omega)
                  · have hzb : (L[j][k] != 0) = true := by simp [hz0]
                    repeat (first
                      | (refine WD_block (fun K hK => ?_))
                      | (refine WD_seq (fun K hK => ?_))
                      | (refine WD_region (fun K hK => ?_))
                      | (refine RunD_o rfl rfl rfl rfl rfl (fun X hX => ?_); simp [e1, e4, e54, e55, e56, e7, e61, e62, e63, hkL, hjk, hg5, hi5, hcell5, hg6, hi6, hcell6, g0, hqb, hjb, hzb]; refine hX _ _ ?_; clear hX X)
                      | (refine RunD_s rfl rfl rfl rfl (fun X hX => ?_); simp [e1, e4, e54, e55, e56, e7, e61, e62, e63, hkL, hjk, hg5, hi5, hcell5, hg6, hi6, hcell6, g0, hqb, hjb, hzb]; refine hX _ _ ?_; clear hX X)
                      | (refine RunD_oT rfl rfl rfl rfl rfl rfl rfl ?hb (fun X hX => ?_); (case hb => simp [e1, e4, e54, e55, e56, e7, e61, e62, e63, hkL, hjk, hg5, hi5, hcell5, hg6, hi6, hcell6, g0, hqb, hjb, hzb]; done); simp [e1, e4, e54, e55, e56, e7, e61, e62, e63, hkL, hjk, hg5, hi5, hcell5, hg6, hi6, hcell6, g0, hqb, hjb, hzb]; refine hX _ _ ?_; clear hX X)
                      | (refine RunD_oF rfl rfl rfl rfl rfl ?hb ?_; (case hb => simp [e1, e4, e54, e55, e56, e7, e61, e62, e63, hkL, hjk, hg5, hi5, hcell5, hg6, hi6, hcell6, g0, hqb, hjb, hzb]; done))
                      | (refine RunD_oU (c := #[]) rfl rfl rfl rfl rfl ?hb ?_; (case hb => simp [e1, e4, e54, e55, e56, e7, e61, e62, e63, hkL, hjk, hg5, hi5, hcell5, hg6, hi6, hcell6, g0, hqb, hjb, hzb]; rfl))
                      | (refine PreD_oU (c := #[]) rfl rfl rfl rfl rfl ?hb ?_; (case hb => simp [e1, e4, e54, e55, e56, e7, e61, e62, e63, hkL, hjk, hg5, hi5, hcell5, hg6, hi6, hcell6, g0, hqb, hjb, hzb]; rfl))
                      | (refine PreD_o rfl rfl rfl rfl rfl (fun X hX => ?_); simp [e1, e4, e54, e55, e56, e7, e61, e62, e63, hkL, hjk, hg5, hi5, hcell5, hg6, hi6, hcell6, g0, hqb, hjb, hzb]; refine hX _ _ ?hadd ?_; (case hadd => simp; done); clear hX X)
                      | (refine PreD_oT rfl rfl rfl rfl rfl rfl rfl ?hb (fun X hX => ?_); (case hb => simp [e1, e4, e54, e55, e56, e7, e61, e62, e63, hkL, hjk, hg5, hi5, hcell5, hg6, hi6, hcell6, g0, hqb, hjb, hzb]; done); simp [e1, e4, e54, e55, e56, e7, e61, e62, e63, hkL, hjk, hg5, hi5, hcell5, hg6, hi6, hcell6, g0, hqb, hjb, hzb]; refine hX _ _ ?hadd ?_; (case hadd => simp; done); clear hX X)
                      | (refine PreD_oF rfl rfl rfl rfl rfl ?hb ?_; (case hb => simp [e1, e4, e54, e55, e56, e7, e61, e62, e63, hkL, hjk, hg5, hi5, hcell5, hg6, hi6, hcell6, g0, hqb, hjb, hzb]; done))
                      | (refine RunD_nil ?_; refine hK _ _ ?_; clear hK K)
                      | (refine RunD_nil ?_)
                      | (refine PreD_nil ?_; refine hK _ _ ?_; clear hK K)
                      | (refine WD_skip ?_)
                      | (refine WD_exit ?_)
                      | (refine WD_ret ?_)
                      | (refine WD_true rfl ?hb ?_; (case hb => simp [e1, e4, e54, e55, e56, e7, e61, e62, e63, hkL, hjk, hg5, hi5, hcell5, hg6, hi6, hcell6, g0, hqb, hjb, hzb]; done))
                      | (refine WD_false rfl ?hb ?_; (case hb => simp [e1, e4, e54, e55, e56, e7, e61, e62, e63, hkL, hjk, hg5, hi5, hcell5, hg6, hi6, hcell6, g0, hqb, hjb, hzb]; done))
                      | (refine hK.1 _ _ ?_; clear hK K)
                      | (refine hK.2.1 _ _ ?_; clear hK K)
                      | (refine hK.2 _ _ _ ?hne ?_; (case hne => simp; done); clear hK K)
                      | (refine hK.2.2 _ _ _ ?hne ?_; (case hne => simp; done); clear hK K))
                    exact done_ret rfl (by rw [goodB_false fun q => hz0 (by rw [← ed1, ← hjk2]; exact q.2.2.2.2.2.1 j (by omega))]; simp [k0])
                · have hjb : ((j : Int) == (k : Int)) = false := by simp [hjk2]
                  repeat (first
                    | (refine WD_block (fun K hK => ?_))
                    | (refine WD_seq (fun K hK => ?_))
                    | (refine WD_region (fun K hK => ?_))
                    | (refine RunD_o rfl rfl rfl rfl rfl (fun X hX => ?_); simp [e1, e4, e54, e55, e56, e7, e61, e62, e63, hkL, hjk, hg5, hi5, hcell5, hg6, hi6, hcell6, g0, hqb, hjb]; refine hX _ _ ?_; clear hX X)
                    | (refine RunD_s rfl rfl rfl rfl (fun X hX => ?_); simp [e1, e4, e54, e55, e56, e7, e61, e62, e63, hkL, hjk, hg5, hi5, hcell5, hg6, hi6, hcell6, g0, hqb, hjb]; refine hX _ _ ?_; clear hX X)
                    | (refine RunD_oT rfl rfl rfl rfl rfl rfl rfl ?hb (fun X hX => ?_); (case hb => simp [e1, e4, e54, e55, e56, e7, e61, e62, e63, hkL, hjk, hg5, hi5, hcell5, hg6, hi6, hcell6, g0, hqb, hjb]; done); simp [e1, e4, e54, e55, e56, e7, e61, e62, e63, hkL, hjk, hg5, hi5, hcell5, hg6, hi6, hcell6, g0, hqb, hjb]; refine hX _ _ ?_; clear hX X)
                    | (refine RunD_oF rfl rfl rfl rfl rfl ?hb ?_; (case hb => simp [e1, e4, e54, e55, e56, e7, e61, e62, e63, hkL, hjk, hg5, hi5, hcell5, hg6, hi6, hcell6, g0, hqb, hjb]; done))
                    | (refine RunD_oU (c := #[]) rfl rfl rfl rfl rfl ?hb ?_; (case hb => simp [e1, e4, e54, e55, e56, e7, e61, e62, e63, hkL, hjk, hg5, hi5, hcell5, hg6, hi6, hcell6, g0, hqb, hjb]; rfl))
                    | (refine PreD_oU (c := #[]) rfl rfl rfl rfl rfl ?hb ?_; (case hb => simp [e1, e4, e54, e55, e56, e7, e61, e62, e63, hkL, hjk, hg5, hi5, hcell5, hg6, hi6, hcell6, g0, hqb, hjb]; rfl))
                    | (refine PreD_o rfl rfl rfl rfl rfl (fun X hX => ?_); simp [e1, e4, e54, e55, e56, e7, e61, e62, e63, hkL, hjk, hg5, hi5, hcell5, hg6, hi6, hcell6, g0, hqb, hjb]; refine hX _ _ ?hadd ?_; (case hadd => simp; done); clear hX X)
                    | (refine PreD_oT rfl rfl rfl rfl rfl rfl rfl ?hb (fun X hX => ?_); (case hb => simp [e1, e4, e54, e55, e56, e7, e61, e62, e63, hkL, hjk, hg5, hi5, hcell5, hg6, hi6, hcell6, g0, hqb, hjb]; done); simp [e1, e4, e54, e55, e56, e7, e61, e62, e63, hkL, hjk, hg5, hi5, hcell5, hg6, hi6, hcell6, g0, hqb, hjb]; refine hX _ _ ?hadd ?_; (case hadd => simp; done); clear hX X)
                    | (refine PreD_oF rfl rfl rfl rfl rfl ?hb ?_; (case hb => simp [e1, e4, e54, e55, e56, e7, e61, e62, e63, hkL, hjk, hg5, hi5, hcell5, hg6, hi6, hcell6, g0, hqb, hjb]; done))
                    | (refine RunD_nil ?_; refine hK _ _ ?_; clear hK K)
                    | (refine RunD_nil ?_)
                    | (refine PreD_nil ?_; refine hK _ _ ?_; clear hK K)
                    | (refine WD_skip ?_)
                    | (refine WD_exit ?_)
                    | (refine WD_ret ?_)
                    | (refine WD_true rfl ?hb ?_; (case hb => simp [e1, e4, e54, e55, e56, e7, e61, e62, e63, hkL, hjk, hg5, hi5, hcell5, hg6, hi6, hcell6, g0, hqb, hjb]; done))
                    | (refine WD_false rfl ?hb ?_; (case hb => simp [e1, e4, e54, e55, e56, e7, e61, e62, e63, hkL, hjk, hg5, hi5, hcell5, hg6, hi6, hcell6, g0, hqb, hjb]; done))
                    | (refine hK.1 _ _ ?_; clear hK K)
                    | (refine hK.2.1 _ _ ?_; clear hK K)
                    | (refine hK.2 _ _ _ ?hne ?_; (case hne => simp; done); clear hK K)
                    | (refine hK.2.2 _ _ _ ?hne ?_; (case hne => simp; done); clear hK K))
                  refine hK.1 (L[j].length - (k + 1)) _ _ (by omega) ⟨k + 1, by omega, rfl, rfl, fun i hi hik => ?_, by simp [e1], by simp [e4], by simp [e54], by simp [e55], by simp [e56], by simp [e7], by simp [e61], by simp [e62], ?_⟩
                  · rcases Nat.lt_succ_iff_lt_or_eq.1 hik with q | q
                    · exact hz i hi q
                    · subst q; exact ⟨b2, by rw [ed1, ed2, hq], fun q => absurd q hjk2⟩
                  · simp; exact wrap64 (by omega) (by omega)
              · have hqb : (L[j][k] != L[k][j]) = true := by simp [hq]
                repeat (first
                  | (refine WD_block (fun K hK => ?_))
                  | (refine WD_seq (fun K hK => ?_))
                  | (refine WD_region (fun K hK => ?_))
                  | (refine RunD_o rfl rfl rfl rfl rfl (fun X hX => ?_); simp [e1, e4, e54, e55, e56, e7, e61, e62, e63, hkL, hjk, hg5, hi5, hcell5, hg6, hi6, hcell6, g0, hqb]; refine hX _ _ ?_; clear hX X)
                  | (refine RunD_s rfl rfl rfl rfl (fun X hX => ?_); simp [e1, e4, e54, e55, e56, e7, e61, e62, e63, hkL, hjk, hg5, hi5, hcell5, hg6, hi6, hcell6, g0, hqb]; refine hX _ _ ?_; clear hX X)
                  | (refine RunD_oT rfl rfl rfl rfl rfl rfl rfl ?hb (fun X hX => ?_); (case hb => simp [e1, e4, e54, e55, e56, e7, e61, e62, e63, hkL, hjk, hg5, hi5, hcell5, hg6, hi6, hcell6, g0, hqb]; done); simp [e1, e4, e54, e55, e56, e7, e61, e62, e63, hkL, hjk, hg5, hi5, hcell5, hg6, hi6, hcell6, g0, hqb]; refine hX _ _ ?_; clear hX X)
                  | (refine RunD_oF rfl rfl rfl rfl rfl ?hb ?_; (case hb => simp [e1, e4, e54, e55, e56, e7, e61, e62, e63, hkL, hjk, hg5, hi5, hcell5, hg6, hi6, hcell6, g0, hqb]; done))
                  | (refine RunD_oU (c := #[]) rfl rfl rfl rfl rfl ?hb ?_; (case hb => simp [e1, e4, e54, e55, e56, e7, e61, e62, e63, hkL, hjk, hg5, hi5, hcell5, hg6, hi6, hcell6, g0, hqb]; rfl))
                  | (refine PreD_oU (c := #[]) rfl rfl rfl rfl rfl ?hb ?_; (case hb => simp [e1, e4, e54, e55, e56, e7, e61, e62, e63, hkL, hjk, hg5, hi5, hcell5, hg6, hi6, hcell6, g0, hqb]; rfl))
                  | (refine PreD_o rfl rfl rfl rfl rfl (fun X hX => ?_); simp [e1, e4, e54, e55, e56, e7, e61, e62, e63, hkL, hjk, hg5, hi5, hcell5, hg6, hi6, hcell6, g0, hqb]; refine hX _ _ ?hadd ?_; (case hadd => simp; done); clear hX X)
                  | (refine PreD_oT rfl rfl rfl rfl rfl rfl rfl ?hb (fun X hX => ?_); (case hb => simp [e1, e4, e54, e55, e56, e7, e61, e62, e63, hkL, hjk, hg5, hi5, hcell5, hg6, hi6, hcell6, g0, hqb]; done); simp [e1, e4, e54, e55, e56, e7, e61, e62, e63, hkL, hjk, hg5, hi5, hcell5, hg6, hi6, hcell6, g0, hqb]; refine hX _ _ ?hadd ?_; (case hadd => simp; done); clear hX X)
                  | (refine PreD_oF rfl rfl rfl rfl rfl ?hb ?_; (case hb => simp [e1, e4, e54, e55, e56, e7, e61, e62, e63, hkL, hjk, hg5, hi5, hcell5, hg6, hi6, hcell6, g0, hqb]; done))
                  | (refine RunD_nil ?_; refine hK _ _ ?_; clear hK K)
                  | (refine RunD_nil ?_)
                  | (refine PreD_nil ?_; refine hK _ _ ?_; clear hK K)
                  | (refine WD_skip ?_)
                  | (refine WD_exit ?_)
                  | (refine WD_ret ?_)
                  | (refine WD_true rfl ?hb ?_; (case hb => simp [e1, e4, e54, e55, e56, e7, e61, e62, e63, hkL, hjk, hg5, hi5, hcell5, hg6, hi6, hcell6, g0, hqb]; done))
                  | (refine WD_false rfl ?hb ?_; (case hb => simp [e1, e4, e54, e55, e56, e7, e61, e62, e63, hkL, hjk, hg5, hi5, hcell5, hg6, hi6, hcell6, g0, hqb]; done))
                  | (refine hK.1 _ _ ?_; clear hK K)
                  | (refine hK.2.1 _ _ ?_; clear hK K)
                  | (refine hK.2 _ _ _ ?hne ?_; (case hne => simp; done); clear hK K)
                  | (refine hK.2.2 _ _ _ ?hne ?_; (case hne => simp; done); clear hK K))
                exact done_ret rfl (by rw [goodB_false fun q => hq (by rw [← ed1, ← ed2]; exact q.2.2.2.2.1 j (by omega) k (by omega))]; simp [k0])
            · rw [decide_eq_false b2] at hc
              refine RunD_c rfl rfl rfl rfl (by simp) (by simp) ?ha (hc) ?_
              (case ha => simp)
              repeat (first
                | (refine WD_block (fun K hK => ?_))
                | (refine WD_seq (fun K hK => ?_))
                | (refine WD_region (fun K hK => ?_))
                | (refine RunD_o rfl rfl rfl rfl rfl (fun X hX => ?_); simp [e63]; refine hX _ _ ?_; clear hX X)
                | (refine RunD_s rfl rfl rfl rfl (fun X hX => ?_); simp [e63]; refine hX _ _ ?_; clear hX X)
                | (refine RunD_oT rfl rfl rfl rfl rfl rfl rfl ?hb (fun X hX => ?_); (case hb => simp [e63]; done); simp [e63]; refine hX _ _ ?_; clear hX X)
                | (refine RunD_oF rfl rfl rfl rfl rfl ?hb ?_; (case hb => simp [e63]; done))
                | (refine RunD_oU (c := #[]) rfl rfl rfl rfl rfl ?hb ?_; (case hb => simp [e63]; rfl))
                | (refine PreD_oU (c := #[]) rfl rfl rfl rfl rfl ?hb ?_; (case hb => simp [e63]; rfl))
                | (refine PreD_o rfl rfl rfl rfl rfl (fun X hX => ?_); simp [e63]; refine hX _ _ ?hadd ?_; (case hadd => simp; done); clear hX X)
                | (refine PreD_oT rfl rfl rfl rfl rfl rfl rfl ?hb (fun X hX => ?_); (case hb => simp [e63]; done); simp [e63]; refine hX _ _ ?hadd ?_; (case hadd => simp; done); clear hX X)
                | (refine PreD_oF rfl rfl rfl rfl rfl ?hb ?_; (case hb => simp [e63]; done))
                | (refine RunD_nil ?_; refine hK _ _ ?_; clear hK K)
                | (refine RunD_nil ?_)
                | (refine PreD_nil ?_; refine hK _ _ ?_; clear hK K)
                | (refine WD_skip ?_)
                | (refine WD_exit ?_)
                | (refine WD_ret ?_)
                | (refine WD_true rfl ?hb ?_; (case hb => simp [e63]; done))
                | (refine WD_false rfl ?hb ?_; (case hb => simp [e63]; done))
                | (refine hK.1 _ _ ?_; clear hK K)
                | (refine hK.2.1 _ _ ?_; clear hK K)
                | (refine hK.2 _ _ _ ?hne ?_; (case hne => simp; done); clear hK K)
                | (refine hK.2.2 _ _ _ ?hne ?_; (case hne => simp; done); clear hK K))
              exact done_ret rfl (by rw [goodB_false fun q => b2 ((q.2.2.2.1 _ (List.getElem_mem hlt)).2 _ (List.getElem_mem hlt3))]; simp [k0])
          · repeat (first
              | (refine WD_block (fun K hK => ?_))
              | (refine WD_seq (fun K hK => ?_))
              | (refine WD_region (fun K hK => ?_))
              | (refine RunD_o rfl rfl rfl rfl rfl (fun X hX => ?_); simp [e1, e4, e54, e55, e56, e7, e61, e62, e63, hlt3]; refine hX _ _ ?_; clear hX X)
              | (refine RunD_s rfl rfl rfl rfl (fun X hX => ?_); simp [e1, e4, e54, e55, e56, e7, e61, e62, e63, hlt3]; refine hX _ _ ?_; clear hX X)
              | (refine RunD_oT rfl rfl rfl rfl rfl rfl rfl ?hb (fun X hX => ?_); (case hb => simp [e1, e4, e54, e55, e56, e7, e61, e62, e63, hlt3]; done); simp [e1, e4, e54, e55, e56, e7, e61, e62, e63, hlt3]; refine hX _ _ ?_; clear hX X)
              | (refine RunD_oF rfl rfl rfl rfl rfl ?hb ?_; (case hb => simp [e1, e4, e54, e55, e56, e7, e61, e62, e63, hlt3]; done))
              | (refine RunD_oU (c := #[]) rfl rfl rfl rfl rfl ?hb ?_; (case hb => simp [e1, e4, e54, e55, e56, e7, e61, e62, e63, hlt3]; rfl))
              | (refine PreD_oU (c := #[]) rfl rfl rfl rfl rfl ?hb ?_; (case hb => simp [e1, e4, e54, e55, e56, e7, e61, e62, e63, hlt3]; rfl))
              | (refine PreD_o rfl rfl rfl rfl rfl (fun X hX => ?_); simp [e1, e4, e54, e55, e56, e7, e61, e62, e63, hlt3]; refine hX _ _ ?hadd ?_; (case hadd => simp; done); clear hX X)
              | (refine PreD_oT rfl rfl rfl rfl rfl rfl rfl ?hb (fun X hX => ?_); (case hb => simp [e1, e4, e54, e55, e56, e7, e61, e62, e63, hlt3]; done); simp [e1, e4, e54, e55, e56, e7, e61, e62, e63, hlt3]; refine hX _ _ ?hadd ?_; (case hadd => simp; done); clear hX X)
              | (refine PreD_oF rfl rfl rfl rfl rfl ?hb ?_; (case hb => simp [e1, e4, e54, e55, e56, e7, e61, e62, e63, hlt3]; done))
              | (refine RunD_nil ?_; refine hK _ _ ?_; clear hK K)
              | (refine RunD_nil ?_)
              | (refine PreD_nil ?_; refine hK _ _ ?_; clear hK K)
              | (refine WD_skip ?_)
              | (refine WD_exit ?_)
              | (refine WD_ret ?_)
              | (refine WD_true rfl ?hb ?_; (case hb => simp [e1, e4, e54, e55, e56, e7, e61, e62, e63, hlt3]; done))
              | (refine WD_false rfl ?hb ?_; (case hb => simp [e1, e4, e54, e55, e56, e7, e61, e62, e63, hlt3]; done))
              | (refine hK.1 _ _ ?_; clear hK K)
              | (refine hK.2.1 _ _ ?_; clear hK K)
              | (refine hK.2 _ _ _ ?hne ?_; (case hne => simp; done); clear hK K)
              | (refine hK.2.2 _ _ _ ?hne ?_; (case hne => simp; done); clear hK K))
            refine hK.1 (L.length - (j + 1)) _ _ (by omega) ⟨j + 1, by omega, rfl, rfl, fun i hi hij k' hk' => ?_, by simp [e1], by simp [e4], by simp [e54], by simp [e55], ?_⟩
            · rcases Nat.lt_succ_iff_lt_or_eq.1 hij with q | q
              · exact hy i hi q k' hk'
              · subst q; exact hz k' hk' (by omega)
            · simp; exact wrap64 (by omega) (by omega)
        · repeat (first
            | (refine WD_block (fun K hK => ?_))
            | (refine WD_seq (fun K hK => ?_))
            | (refine WD_region (fun K hK => ?_))
            | (refine RunD_o rfl rfl rfl rfl rfl (fun X hX => ?_); simp [e1, e4, e54, e55, e56, hlt]; refine hX _ _ ?_; clear hX X)
            | (refine RunD_s rfl rfl rfl rfl (fun X hX => ?_); simp [e1, e4, e54, e55, e56, hlt]; refine hX _ _ ?_; clear hX X)
            | (refine RunD_oT rfl rfl rfl rfl rfl rfl rfl ?hb (fun X hX => ?_); (case hb => simp [e1, e4, e54, e55, e56, hlt]; done); simp [e1, e4, e54, e55, e56, hlt]; refine hX _ _ ?_; clear hX X)
            | (refine RunD_oF rfl rfl rfl rfl rfl ?hb ?_; (case hb => simp [e1, e4, e54, e55, e56, hlt]; done))
            | (refine RunD_oU (c := #[]) rfl rfl rfl rfl rfl ?hb ?_; (case hb => simp [e1, e4, e54, e55, e56, hlt]; rfl))
            | (refine PreD_oU (c := #[]) rfl rfl rfl rfl rfl ?hb ?_; (case hb => simp [e1, e4, e54, e55, e56, hlt]; rfl))
            | (refine PreD_o rfl rfl rfl rfl rfl (fun X hX => ?_); simp [e1, e4, e54, e55, e56, hlt]; refine hX _ _ ?hadd ?_; (case hadd => simp; done); clear hX X)
            | (refine PreD_oT rfl rfl rfl rfl rfl rfl rfl ?hb (fun X hX => ?_); (case hb => simp [e1, e4, e54, e55, e56, hlt]; done); simp [e1, e4, e54, e55, e56, hlt]; refine hX _ _ ?hadd ?_; (case hadd => simp; done); clear hX X)
            | (refine PreD_oF rfl rfl rfl rfl rfl ?hb ?_; (case hb => simp [e1, e4, e54, e55, e56, hlt]; done))
            | (refine RunD_nil ?_; refine hK _ _ ?_; clear hK K)
            | (refine RunD_nil ?_)
            | (refine PreD_nil ?_; refine hK _ _ ?_; clear hK K)
            | (refine WD_skip ?_)
            | (refine WD_exit ?_)
            | (refine WD_ret ?_)
            | (refine WD_true rfl ?hb ?_; (case hb => simp [e1, e4, e54, e55, e56, hlt]; done))
            | (refine WD_false rfl ?hb ?_; (case hb => simp [e1, e4, e54, e55, e56, hlt]; done))
            | (refine hK.1 _ _ ?_; clear hK K)
            | (refine hK.2.1 _ _ ?_; clear hK K)
            | (refine hK.2 _ _ _ ?hne ?_; (case hne => simp; done); clear hK K)
            | (refine hK.2.2 _ _ _ ?hne ?_; (case hne => simp; done); clear hK K))
          have hgood : goodB L A = decide (A.sum ≤ 30) := by
            by_cases hs : A.sum ≤ 30
            · rw [goodB_true ⟨by omega, c2, c3, fun r hr => ?_, fun i hi k hk => ?_, fun i hi => ?_, hs⟩, decide_eq_true hs]
              · obtain ⟨i, hi, rfl⟩ := List.getElem_of_mem hr
                refine ⟨hrow i hi, fun x hx' => ?_⟩
                obtain ⟨k, hk, rfl⟩ := List.getElem_of_mem hx'
                exact (hy i hi (by omega) k hk).1
              · have hiL : i < L.length := by omega
                exact (hy i hiL (by omega) k (by rw [hrow i hiL]; exact hk)).2.1
              · have hiL : i < L.length := by omega
                exact (hy i hiL (by omega) i (by rw [hrow i hiL]; exact hi)).2.2 rfl
            · rw [goodB_false fun q => hs q.2.2.2.2.2.2, decide_eq_false hs]
          exact done_ret rfl (by rw [hgood]; simp [k0])
    · have c2b : ((L.length : Int) != (A.length : Int)) = true := by simp [c2]
      repeat (first
        | (refine WD_block (fun K hK => ?_))
        | (refine WD_seq (fun K hK => ?_))
        | (refine WD_region (fun K hK => ?_))
        | (refine RunD_o rfl rfl rfl rfl rfl (fun X hX => ?_); simp [g0, c2b]; refine hX _ _ ?_; clear hX X)
        | (refine RunD_s rfl rfl rfl rfl (fun X hX => ?_); simp [g0, c2b]; refine hX _ _ ?_; clear hX X)
        | (refine RunD_oT rfl rfl rfl rfl rfl rfl rfl ?hb (fun X hX => ?_); (case hb => simp [g0, c2b]; done); simp [g0, c2b]; refine hX _ _ ?_; clear hX X)
        | (refine RunD_oF rfl rfl rfl rfl rfl ?hb ?_; (case hb => simp [g0, c2b]; done))
        | (refine RunD_oU (c := #[]) rfl rfl rfl rfl rfl ?hb ?_; (case hb => simp [g0, c2b]; rfl))
        | (refine PreD_oU (c := #[]) rfl rfl rfl rfl rfl ?hb ?_; (case hb => simp [g0, c2b]; rfl))
        | (refine PreD_o rfl rfl rfl rfl rfl (fun X hX => ?_); simp [g0, c2b]; refine hX _ _ ?hadd ?_; (case hadd => simp; done); clear hX X)
        | (refine PreD_oT rfl rfl rfl rfl rfl rfl rfl ?hb (fun X hX => ?_); (case hb => simp [g0, c2b]; done); simp [g0, c2b]; refine hX _ _ ?hadd ?_; (case hadd => simp; done); clear hX X)
        | (refine PreD_oF rfl rfl rfl rfl rfl ?hb ?_; (case hb => simp [g0, c2b]; done))
        | (refine RunD_nil ?_; refine hK _ _ ?_; clear hK K)
        | (refine RunD_nil ?_)
        | (refine PreD_nil ?_; refine hK _ _ ?_; clear hK K)
        | (refine WD_skip ?_)
        | (refine WD_exit ?_)
        | (refine WD_ret ?_)
        | (refine WD_true rfl ?hb ?_; (case hb => simp [g0, c2b]; done))
        | (refine WD_false rfl ?hb ?_; (case hb => simp [g0, c2b]; done))
        | (refine hK.1 _ _ ?_; clear hK K)
        | (refine hK.2.1 _ _ ?_; clear hK K)
        | (refine hK.2 _ _ _ ?hne ?_; (case hne => simp; done); clear hK K)
        | (refine hK.2.2 _ _ _ ?hne ?_; (case hne => simp; done); clear hK K))
      exact done_ret rfl (by rw [goodB_false fun q => c2 q.2.1]; simp [k0])
  · have hc := fun H => within_ok H A.length 1 5
    rw [decide_eq_false c1] at hc
    refine RunD_c rfl rfl rfl rfl (by simp) (by simp) ?ha (hc _) ?_
    (case ha => simp)
    repeat (first
      | (refine WD_block (fun K hK => ?_))
      | (refine WD_seq (fun K hK => ?_))
      | (refine WD_region (fun K hK => ?_))
      | (refine RunD_o rfl rfl rfl rfl rfl (fun X hX => ?_); simp; refine hX _ _ ?_; clear hX X)
      | (refine RunD_s rfl rfl rfl rfl (fun X hX => ?_); simp; refine hX _ _ ?_; clear hX X)
      | (refine RunD_oT rfl rfl rfl rfl rfl rfl rfl ?hb (fun X hX => ?_); (case hb => simp; done); simp; refine hX _ _ ?_; clear hX X)
      | (refine RunD_oF rfl rfl rfl rfl rfl ?hb ?_; (case hb => simp; done))
      | (refine RunD_oU (c := #[]) rfl rfl rfl rfl rfl ?hb ?_; (case hb => simp; rfl))
      | (refine PreD_oU (c := #[]) rfl rfl rfl rfl rfl ?hb ?_; (case hb => simp; rfl))
      | (refine PreD_o rfl rfl rfl rfl rfl (fun X hX => ?_); simp; refine hX _ _ ?hadd ?_; (case hadd => simp; done); clear hX X)
      | (refine PreD_oT rfl rfl rfl rfl rfl rfl rfl ?hb (fun X hX => ?_); (case hb => simp; done); simp; refine hX _ _ ?hadd ?_; (case hadd => simp; done); clear hX X)
      | (refine PreD_oF rfl rfl rfl rfl rfl ?hb ?_; (case hb => simp; done))
      | (refine RunD_nil ?_; refine hK _ _ ?_; clear hK K)
      | (refine RunD_nil ?_)
      | (refine PreD_nil ?_; refine hK _ _ ?_; clear hK K)
      | (refine WD_skip ?_)
      | (refine WD_exit ?_)
      | (refine WD_ret ?_)
      | (refine WD_true rfl ?hb ?_; (case hb => simp; done))
      | (refine WD_false rfl ?hb ?_; (case hb => simp; done))
      | (refine hK.1 _ _ ?_; clear hK K)
      | (refine hK.2.1 _ _ ?_; clear hK K)
      | (refine hK.2 _ _ _ ?hne ?_; (case hne => simp; done); clear hK K)
      | (refine hK.2.2 _ _ _ ?hne ?_; (case hne => simp; done); clear hK K))
    exact done_ret rfl (by rw [goodB_false fun q => c1 (by have := q.1; omega)]; simp [k0])
end Go.Proofs.Ytdadnaliiegceaa
