/- Whether they are chips: the specification. -/
import Derived.Test.YtdadnaliiegceaaC1C
namespace Go.Proofs.Ytdadnaliiegceaa
set_option linter.unusedSimpArgs false
set_option linter.unusedVariables false
open Go Go.Eng
attribute [local irreducible] WD RunD PreD Runs CallOK

def el (L : List (List Int)) (i j : Nat) : Int := (L.getD i []).getD j 0
theorem el_eq {L : List (List Int)} {i j : Nat} (hi : i < L.length) (hj : j < L[i].length) : el L i j = L[i][j] := by
  simp [el, hi, hj]

def Good (L : List (List Int)) (A : List Int) : Prop :=
  (1 ≤ A.length ∧ A.length ≤ 5) ∧ L.length = A.length ∧ (∀ x ∈ A, 0 ≤ x ∧ x ≤ 30) ∧ (∀ r ∈ L, r.length = A.length ∧ ∀ x ∈ r, 0 ≤ x ∧ x ≤ 3) ∧
  (∀ i, i < A.length → ∀ j, j < A.length → el L i j = el L j i) ∧ (∀ i, i < A.length → el L i i = 0) ∧ A.sum ≤ 30
noncomputable def goodB (L : List (List Int)) (A : List Int) : Bool := @decide (Good L A) (Classical.propDecidable _)
theorem goodB_true {L : List (List Int)} {A : List Int} (h : Good L A) : goodB L A = true := by simp [goodB, h]
theorem goodB_false {L : List (List Int)} {A : List Int} (h : ¬ Good L A) : goodB L A = false := by simp [goodB, h]

theorem sum_take {A : List Int} (hA : ∀ x ∈ A, 0 ≤ x ∧ x ≤ 30) : ∀ k, k ≤ A.length → 0 ≤ (A.take k).sum ∧ (A.take k).sum ≤ 30 * (k : Int)
  | 0, _ => by simp
  | k + 1, hk => by
    have := sum_take hA k (by omega)
    have h2 := hA _ (List.getElem_mem (show k < A.length by omega))
    rw [List.take_succ_eq_append_getElem (by omega), List.sum_append]
    simp
    omega
theorem sum_step {A : List Int} {k : Nat} (hk : k < A.length) : (A.take (k + 1)).sum = (A.take k).sum + A[k] := by
  rw [List.take_succ_eq_append_getElem hk, List.sum_append]; simp

theorem l1All_ok (h : Hp) (v : Value) (xs : List Int) (a b : Int) (hv : Ints h v xs) : CallOK Try.prog 71 #[v, .int .i64 a, .int .i64 b] h (.bool (decide (∀ x ∈ xs, a ≤ x ∧ x ≤ b))) h := by
  refine call_P 21 _ [.tmp 6] Try.func71 rfl rfl rfl rfl ?_
  have hs := hv.short
  obtain ⟨s, c, e, _, _⟩ := hv.form
  repeat (first
    | (refine WD_block (fun K hK => ?_))
    | (refine WD_seq (fun K hK => ?_))
    | (refine WD_region (fun K hK => ?_))
    | (refine RunD_o rfl rfl rfl rfl rfl (fun X hX => ?_); simp [e]; refine hX _ _ ?_; clear hX X)
    | (refine RunD_s rfl rfl rfl rfl (fun X hX => ?_); simp [e]; refine hX _ _ ?_; clear hX X)
    | (refine RunD_oT rfl rfl rfl rfl rfl rfl rfl ?hb (fun X hX => ?_); (case hb => simp [e]; done); simp [e]; refine hX _ _ ?_; clear hX X)
    | (refine RunD_oF rfl rfl rfl rfl rfl ?hb ?_; (case hb => simp [e]; done))
    | (refine RunD_oU (c := #[]) rfl rfl rfl rfl rfl ?hb ?_; (case hb => simp [e]; rfl))
    | (refine PreD_oU (c := #[]) rfl rfl rfl rfl rfl ?hb ?_; (case hb => simp [e]; rfl))
    | (refine PreD_o rfl rfl rfl rfl rfl (fun X hX => ?_); simp [e]; refine hX _ _ ?hadd ?_; (case hadd => simp; done); clear hX X)
    | (refine PreD_oT rfl rfl rfl rfl rfl rfl rfl ?hb (fun X hX => ?_); (case hb => simp [e]; done); simp [e]; refine hX _ _ ?hadd ?_; (case hadd => simp; done); clear hX X)
    | (refine PreD_oF rfl rfl rfl rfl rfl ?hb ?_; (case hb => simp [e]; done))
    | (refine RunD_nil ?_; refine hK _ _ ?_; clear hK K)
    | (refine RunD_nil ?_)
    | (refine PreD_nil ?_; refine hK _ _ ?_; clear hK K)
    | (refine WD_skip ?_)
    | (refine WD_exit ?_)
    | (refine WD_ret ?_)
    | (refine WD_true rfl ?hb ?_; (case hb => simp [e]; done))
    | (refine WD_false rfl ?hb ?_; (case hb => simp [e]; done))
    | (refine hK.1 _ _ ?_; clear hK K)
    | (refine hK.2.1 _ _ ?_; clear hK K)
    | (refine hK.2 _ _ _ ?hne ?_; (case hne => simp; done); clear hK K)
    | (refine hK.2.2 _ _ _ ?hne ?_; (case hne => simp; done); clear hK K))
  refine WD_loop (fun m tm h' => ∃ j, j ≤ xs.length ∧ m = xs.length - j ∧ h = h' ∧ (∀ i (hi : i < xs.length), i < j → a ≤ xs[i] ∧ xs[i] ≤ b) ∧ tm 1 = .int .i64 a ∧ tm 2 = .int .i64 b ∧ tm 9 = v ∧ tm 10 = .int .i64 xs.length ∧ tm 11 = .int .i64 (j : Int)) _
    ⟨0, by simp, rfl, rfl, by simp, by simp, by simp, by simp [e], by simp, by simp⟩ ?_
  rintro m tm h' ⟨j, hj, rfl, rfl, hx, e1, e2, e9, e10, e11⟩ K hK
  rw [e] at e9
  by_cases hlt : j < xs.length
  · obtain ⟨o, i, c2, ds, own, ex, es, e', hg, hi, hcell⟩ := hv.at hlt
    rw [e] at e'
    cases e'
    repeat (first
      | (refine WD_block (fun K hK => ?_))
      | (refine WD_seq (fun K hK => ?_))
      | (refine WD_region (fun K hK => ?_))
      | (refine RunD_o rfl rfl rfl rfl rfl (fun X hX => ?_); simp [e1, e2, e9, e10, e11, hlt, hg, hi, hcell]; refine hX _ _ ?_; clear hX X)
      | (refine RunD_s rfl rfl rfl rfl (fun X hX => ?_); simp [e1, e2, e9, e10, e11, hlt, hg, hi, hcell]; refine hX _ _ ?_; clear hX X)
      | (refine RunD_oT rfl rfl rfl rfl rfl rfl rfl ?hb (fun X hX => ?_); (case hb => simp [e1, e2, e9, e10, e11, hlt, hg, hi, hcell]; done); simp [e1, e2, e9, e10, e11, hlt, hg, hi, hcell]; refine hX _ _ ?_; clear hX X)
      | (refine RunD_oF rfl rfl rfl rfl rfl ?hb ?_; (case hb => simp [e1, e2, e9, e10, e11, hlt, hg, hi, hcell]; done))
      | (refine RunD_oU (c := #[]) rfl rfl rfl rfl rfl ?hb ?_; (case hb => simp [e1, e2, e9, e10, e11, hlt, hg, hi, hcell]; rfl))
      | (refine PreD_oU (c := #[]) rfl rfl rfl rfl rfl ?hb ?_; (case hb => simp [e1, e2, e9, e10, e11, hlt, hg, hi, hcell]; rfl))
      | (refine PreD_o rfl rfl rfl rfl rfl (fun X hX => ?_); simp [e1, e2, e9, e10, e11, hlt, hg, hi, hcell]; refine hX _ _ ?hadd ?_; (case hadd => simp; done); clear hX X)
      | (refine PreD_oT rfl rfl rfl rfl rfl rfl rfl ?hb (fun X hX => ?_); (case hb => simp [e1, e2, e9, e10, e11, hlt, hg, hi, hcell]; done); simp [e1, e2, e9, e10, e11, hlt, hg, hi, hcell]; refine hX _ _ ?hadd ?_; (case hadd => simp; done); clear hX X)
      | (refine PreD_oF rfl rfl rfl rfl rfl ?hb ?_; (case hb => simp [e1, e2, e9, e10, e11, hlt, hg, hi, hcell]; done))
      | (refine RunD_nil ?_; refine hK _ _ ?_; clear hK K)
      | (refine RunD_nil ?_)
      | (refine PreD_nil ?_; refine hK _ _ ?_; clear hK K)
      | (refine WD_skip ?_)
      | (refine WD_exit ?_)
      | (refine WD_ret ?_)
      | (refine WD_true rfl ?hb ?_; (case hb => simp [e1, e2, e9, e10, e11, hlt, hg, hi, hcell]; done))
      | (refine WD_false rfl ?hb ?_; (case hb => simp [e1, e2, e9, e10, e11, hlt, hg, hi, hcell]; done))
      | (refine hK.1 _ _ ?_; clear hK K)
      | (refine hK.2.1 _ _ ?_; clear hK K)
      | (refine hK.2 _ _ _ ?hne ?_; (case hne => simp; done); clear hK K)
      | (refine hK.2.2 _ _ _ ?hne ?_; (case hne => simp; done); clear hK K))
    by_cases hq : a ≤ xs[j] ∧ xs[j] ≤ b
    · have hc := l1In_ok h xs[j] a b
      rw [decide_eq_true hq] at hc
      refine RunD_c rfl rfl rfl rfl (by simp) (by simp) ?ha (hc) ?_
      (case ha => simp [e1, e2, e9, e10, e11, hlt, hg, hi, hcell])
      repeat (first
        | (refine WD_block (fun K hK => ?_))
        | (refine WD_seq (fun K hK => ?_))
        | (refine WD_region (fun K hK => ?_))
        | (refine RunD_o rfl rfl rfl rfl rfl (fun X hX => ?_); simp [e11]; refine hX _ _ ?_; clear hX X)
        | (refine RunD_s rfl rfl rfl rfl (fun X hX => ?_); simp [e11]; refine hX _ _ ?_; clear hX X)
        | (refine RunD_oT rfl rfl rfl rfl rfl rfl rfl ?hb (fun X hX => ?_); (case hb => simp [e11]; done); simp [e11]; refine hX _ _ ?_; clear hX X)
        | (refine RunD_oF rfl rfl rfl rfl rfl ?hb ?_; (case hb => simp [e11]; done))
        | (refine RunD_oU (c := #[]) rfl rfl rfl rfl rfl ?hb ?_; (case hb => simp [e11]; rfl))
        | (refine PreD_oU (c := #[]) rfl rfl rfl rfl rfl ?hb ?_; (case hb => simp [e11]; rfl))
        | (refine PreD_o rfl rfl rfl rfl rfl (fun X hX => ?_); simp [e11]; refine hX _ _ ?hadd ?_; (case hadd => simp; done); clear hX X)
        | (refine PreD_oT rfl rfl rfl rfl rfl rfl rfl ?hb (fun X hX => ?_); (case hb => simp [e11]; done); simp [e11]; refine hX _ _ ?hadd ?_; (case hadd => simp; done); clear hX X)
        | (refine PreD_oF rfl rfl rfl rfl rfl ?hb ?_; (case hb => simp [e11]; done))
        | (refine RunD_nil ?_; refine hK _ _ ?_; clear hK K)
        | (refine RunD_nil ?_)
        | (refine PreD_nil ?_; refine hK _ _ ?_; clear hK K)
        | (refine WD_skip ?_)
        | (refine WD_exit ?_)
        | (refine WD_ret ?_)
        | (refine WD_true rfl ?hb ?_; (case hb => simp [e11]; done))
        | (refine WD_false rfl ?hb ?_; (case hb => simp [e11]; done))
        | (refine hK.1 _ _ ?_; clear hK K)
        | (refine hK.2.1 _ _ ?_; clear hK K)
        | (refine hK.2 _ _ _ ?hne ?_; (case hne => simp; done); clear hK K)
        | (refine hK.2.2 _ _ _ ?hne ?_; (case hne => simp; done); clear hK K))
      refine hK.1 (xs.length - (j + 1)) _ _ (by omega) ⟨j + 1, by omega, rfl, rfl, fun i hi hij => ?_, by simp [e1], by simp [e2], by simp [e9, e], by simp [e10], ?_⟩
      · rcases Nat.lt_succ_iff_lt_or_eq.1 hij with h1 | h1
        · exact hx i hi h1
        · subst h1; exact hq
      · simp; exact wrap64 (by omega) (by omega)
    · have hc := l1In_ok h xs[j] a b
      rw [decide_eq_false hq] at hc
      refine RunD_c rfl rfl rfl rfl (by simp) (by simp) ?ha (hc) ?_
      (case ha => simp [e1, e2, e9, e10, e11, hlt, hg, hi, hcell])
      repeat (first
        | (refine WD_block (fun K hK => ?_))
        | (refine WD_seq (fun K hK => ?_))
        | (refine WD_region (fun K hK => ?_))
        | (refine RunD_o rfl rfl rfl rfl rfl (fun X hX => ?_); simp [e11]; refine hX _ _ ?_; clear hX X)
        | (refine RunD_s rfl rfl rfl rfl (fun X hX => ?_); simp [e11]; refine hX _ _ ?_; clear hX X)
        | (refine RunD_oT rfl rfl rfl rfl rfl rfl rfl ?hb (fun X hX => ?_); (case hb => simp [e11]; done); simp [e11]; refine hX _ _ ?_; clear hX X)
        | (refine RunD_oF rfl rfl rfl rfl rfl ?hb ?_; (case hb => simp [e11]; done))
        | (refine RunD_oU (c := #[]) rfl rfl rfl rfl rfl ?hb ?_; (case hb => simp [e11]; rfl))
        | (refine PreD_oU (c := #[]) rfl rfl rfl rfl rfl ?hb ?_; (case hb => simp [e11]; rfl))
        | (refine PreD_o rfl rfl rfl rfl rfl (fun X hX => ?_); simp [e11]; refine hX _ _ ?hadd ?_; (case hadd => simp; done); clear hX X)
        | (refine PreD_oT rfl rfl rfl rfl rfl rfl rfl ?hb (fun X hX => ?_); (case hb => simp [e11]; done); simp [e11]; refine hX _ _ ?hadd ?_; (case hadd => simp; done); clear hX X)
        | (refine PreD_oF rfl rfl rfl rfl rfl ?hb ?_; (case hb => simp [e11]; done))
        | (refine RunD_nil ?_; refine hK _ _ ?_; clear hK K)
        | (refine RunD_nil ?_)
        | (refine PreD_nil ?_; refine hK _ _ ?_; clear hK K)
        | (refine WD_skip ?_)
        | (refine WD_exit ?_)
        | (refine WD_ret ?_)
        | (refine WD_true rfl ?hb ?_; (case hb => simp [e11]; done))
        | (refine WD_false rfl ?hb ?_; (case hb => simp [e11]; done))
        | (refine hK.1 _ _ ?_; clear hK K)
        | (refine hK.2.1 _ _ ?_; clear hK K)
        | (refine hK.2 _ _ _ ?hne ?_; (case hne => simp; done); clear hK K)
        | (refine hK.2.2 _ _ _ ?hne ?_; (case hne => simp; done); clear hK K))
      have : ¬ ∀ x ∈ xs, a ≤ x ∧ x ≤ b := fun q => hq (q _ (List.getElem_mem hlt))
      exact done_ret rfl (by rw [decide_eq_false this]; simp)
  · repeat (first
      | (refine WD_block (fun K hK => ?_))
      | (refine WD_seq (fun K hK => ?_))
      | (refine WD_region (fun K hK => ?_))
      | (refine RunD_o rfl rfl rfl rfl rfl (fun X hX => ?_); simp [e1, e2, e9, e10, e11, hlt]; refine hX _ _ ?_; clear hX X)
      | (refine RunD_s rfl rfl rfl rfl (fun X hX => ?_); simp [e1, e2, e9, e10, e11, hlt]; refine hX _ _ ?_; clear hX X)
      | (refine RunD_oT rfl rfl rfl rfl rfl rfl rfl ?hb (fun X hX => ?_); (case hb => simp [e1, e2, e9, e10, e11, hlt]; done); simp [e1, e2, e9, e10, e11, hlt]; refine hX _ _ ?_; clear hX X)
      | (refine RunD_oF rfl rfl rfl rfl rfl ?hb ?_; (case hb => simp [e1, e2, e9, e10, e11, hlt]; done))
      | (refine RunD_oU (c := #[]) rfl rfl rfl rfl rfl ?hb ?_; (case hb => simp [e1, e2, e9, e10, e11, hlt]; rfl))
      | (refine PreD_oU (c := #[]) rfl rfl rfl rfl rfl ?hb ?_; (case hb => simp [e1, e2, e9, e10, e11, hlt]; rfl))
      | (refine PreD_o rfl rfl rfl rfl rfl (fun X hX => ?_); simp [e1, e2, e9, e10, e11, hlt]; refine hX _ _ ?hadd ?_; (case hadd => simp; done); clear hX X)
      | (refine PreD_oT rfl rfl rfl rfl rfl rfl rfl ?hb (fun X hX => ?_); (case hb => simp [e1, e2, e9, e10, e11, hlt]; done); simp [e1, e2, e9, e10, e11, hlt]; refine hX _ _ ?hadd ?_; (case hadd => simp; done); clear hX X)
      | (refine PreD_oF rfl rfl rfl rfl rfl ?hb ?_; (case hb => simp [e1, e2, e9, e10, e11, hlt]; done))
      | (refine RunD_nil ?_; refine hK _ _ ?_; clear hK K)
      | (refine RunD_nil ?_)
      | (refine PreD_nil ?_; refine hK _ _ ?_; clear hK K)
      | (refine WD_skip ?_)
      | (refine WD_exit ?_)
      | (refine WD_ret ?_)
      | (refine WD_true rfl ?hb ?_; (case hb => simp [e1, e2, e9, e10, e11, hlt]; done))
      | (refine WD_false rfl ?hb ?_; (case hb => simp [e1, e2, e9, e10, e11, hlt]; done))
      | (refine hK.1 _ _ ?_; clear hK K)
      | (refine hK.2.1 _ _ ?_; clear hK K)
      | (refine hK.2 _ _ _ ?hne ?_; (case hne => simp; done); clear hK K)
      | (refine hK.2.2 _ _ _ ?hne ?_; (case hne => simp; done); clear hK K))
    have : ∀ x ∈ xs, a ≤ x ∧ x ≤ b := fun x hx' => by
      obtain ⟨i, hi, rfl⟩ := List.getElem_of_mem hx'
      exact hx i hi (by omega)
    exact done_ret rfl (by rw [decide_eq_true this]; simp)

set_option maxHeartbeats 4000000 in
theorem waGood_ok (h : Hp) (v : Value) (L : List (List Int)) (A : List Int) (hv : Chips h v L A) : CallOK Try.prog 50 #[v] h (.bool (goodB L A)) h := by
  refine call_P 91 _ [.tmp 2] Try.func50 rfl rfl rfl rfl ?_
  obtain ⟨s, c, s', c', rfl, hL, hA⟩ := hv.open
  repeat (first
    | (refine WD_block (fun K hK => ?_))
    | (refine WD_seq (fun K hK => ?_))
    | (refine WD_region (fun K hK => ?_))
    | (refine RunD_o rfl rfl rfl rfl rfl (fun X hX => ?_); simp; refine hX _ _ ?_; clear hX X)
    | (refine RunD_s rfl rfl rfl rfl (fun X hX => ?_); simp; refine hX _ _ ?_; clear hX X)
    | (refine RunD_oT rfl rfl rfl rfl rfl rfl rfl ?hb (fun X hX => ?_); (case hb => simp; done); simp; refine hX _ _ ?_; clear hX X)
    | (refine RunD_oF rfl rfl rfl rfl rfl ?hb ?_; (case hb => simp; done))
    | (refine RunD_oU (c := #[]) rfl rfl rfl rfl rfl ?hb ?_; (case hb => simp; rfl))
    | (refine PreD_oU (c := #[]) rfl rfl rfl rfl rfl ?hb ?_; (case hb => simp; rfl))
    | (refine PreD_o rfl rfl rfl rfl rfl (fun X hX => ?_); simp; refine hX _ _ ?hadd ?_; (case hadd => simp; done); clear hX X)
    | (refine PreD_oT rfl rfl rfl rfl rfl rfl rfl ?hb (fun X hX => ?_); (case hb => simp; done); simp; refine hX _ _ ?hadd ?_; (case hadd => simp; done); clear hX X)
    | (refine PreD_oF rfl rfl rfl rfl rfl ?hb ?_; (case hb => simp; done))
    | (refine RunD_nil ?_; refine hK _ _ ?_; clear hK K)
    | (refine RunD_nil ?_)
    | (refine PreD_nil ?_; refine hK _ _ ?_; clear hK K)
    | (refine WD_skip ?_)
    | (refine WD_exit ?_)
    | (refine WD_ret ?_)
    | (refine WD_true rfl ?hb ?_; (case hb => simp; done))
    | (refine WD_false rfl ?hb ?_; (case hb => simp; done))
    | (refine hK.1 _ _ ?_; clear hK K)
    | (refine hK.2.1 _ _ ?_; clear hK K)
    | (refine hK.2 _ _ _ ?hne ?_; (case hne => simp; done); clear hK K)
    | (refine hK.2.2 _ _ _ ?hne ?_; (case hne => simp; done); clear hK K))
  generalize hh : h.alloc (.cells [.slice s L.length c, .slice s' A.length c'] true true 1) = h0
  have g0 : h0.get h.next = .cells [.slice s L.length c, .slice s' A.length c'] true true 1 := by rw [← hh]; simp
  have k0 : Keeps h h0 := by rw [← hh]; simp
  replace hL := hL.keep k0
  replace hA := hA.keep k0
  by_cases c1 : 1 ≤ (A.length : Int) ∧ (A.length : Int) ≤ 5
  · have hc := fun H => l1In_ok H A.length 1 5
    rw [decide_eq_true c1] at hc
    refine RunD_c rfl rfl rfl rfl (by simp) (by simp) ?ha (hc _) ?_
    (case ha => simp)
    by_cases c2 : L.length = A.length
    · have c2b : ((L.length : Int) != (A.length : Int)) = false := by simp [c2]
      repeat (first
        | (refine WD_block (fun K hK => ?_))
        | (refine WD_seq (fun K hK => ?_))
        | (refine WD_region (fun K hK => ?_))
        | (refine RunD_o rfl rfl rfl rfl rfl (fun X hX => ?_); simp [g0, c2b]; refine hX _ _ ?_; clear hX X)
        | (refine RunD_s rfl rfl rfl rfl (fun X hX => ?_); simp [g0, c2b]; refine hX _ _ ?_; clear hX X)
        | (refine RunD_oT rfl rfl rfl rfl rfl rfl rfl ?hb (fun X hX => ?_); (case hb => simp [g0, c2b]; done); simp [g0, c2b]; refine hX _ _ ?_; clear hX X)
        | (refine RunD_oF rfl rfl rfl rfl rfl ?hb ?_; (case hb => simp [g0, c2b]; done))
        | (refine RunD_oU (c := #[]) rfl rfl rfl rfl rfl ?hb ?_; (case hb => simp [g0, c2b]; rfl))
        | (refine PreD_oU (c := #[]) rfl rfl rfl rfl rfl ?hb ?_; (case hb => simp [g0, c2b]; rfl))
        | (refine PreD_o rfl rfl rfl rfl rfl (fun X hX => ?_); simp [g0, c2b]; refine hX _ _ ?hadd ?_; (case hadd => simp; done); clear hX X)
        | (refine PreD_oT rfl rfl rfl rfl rfl rfl rfl ?hb (fun X hX => ?_); (case hb => simp [g0, c2b]; done); simp [g0, c2b]; refine hX _ _ ?hadd ?_; (case hadd => simp; done); clear hX X)
        | (refine PreD_oF rfl rfl rfl rfl rfl ?hb ?_; (case hb => simp [g0, c2b]; done))
        | (refine RunD_nil ?_; refine hK _ _ ?_; clear hK K)
        | (refine RunD_nil ?_)
        | (refine PreD_nil ?_; refine hK _ _ ?_; clear hK K)
        | (refine WD_skip ?_)
        | (refine WD_exit ?_)
        | (refine WD_ret ?_)
        | (refine WD_true rfl ?hb ?_; (case hb => simp [g0, c2b]; done))
        | (refine WD_false rfl ?hb ?_; (case hb => simp [g0, c2b]; done))
        | (refine hK.1 _ _ ?_; clear hK K)
        | (refine hK.2.1 _ _ ?_; clear hK K)
        | (refine hK.2 _ _ _ ?hne ?_; (case hne => simp; done); clear hK K)
        | (refine hK.2.2 _ _ _ ?hne ?_; (case hne => simp; done); clear hK K))
      by_cases c3 : ∀ x ∈ A, 0 ≤ x ∧ x ≤ 30
      · have hc := l1All_ok h0 _ A 0 30 hA
        rw [decide_eq_true c3] at hc
        refine RunD_cT rfl rfl rfl rfl rfl rfl ?hb (by simp) (by simp) ?ha (hc) ?_
        (case hb => simp [c2b])
        (case ha => simp [c2b])
        repeat (first
          | (refine WD_block (fun K hK => ?_))
          | (refine WD_seq (fun K hK => ?_))
          | (refine WD_region (fun K hK => ?_))
          | (refine RunD_o rfl rfl rfl rfl rfl (fun X hX => ?_); simp [g0, c2b]; refine hX _ _ ?_; clear hX X)
          | (refine RunD_s rfl rfl rfl rfl (fun X hX => ?_); simp [g0, c2b]; refine hX _ _ ?_; clear hX X)
          | (refine RunD_oT rfl rfl rfl rfl rfl rfl rfl ?hb (fun X hX => ?_); (case hb => simp [g0, c2b]; done); simp [g0, c2b]; refine hX _ _ ?_; clear hX X)
          | (refine RunD_oF rfl rfl rfl rfl rfl ?hb ?_; (case hb => simp [g0, c2b]; done))
          | (refine RunD_oU (c := #[]) rfl rfl rfl rfl rfl ?hb ?_; (case hb => simp [g0, c2b]; rfl))
          | (refine PreD_oU (c := #[]) rfl rfl rfl rfl rfl ?hb ?_; (case hb => simp [g0, c2b]; rfl))
          | (refine PreD_o rfl rfl rfl rfl rfl (fun X hX => ?_); simp [g0, c2b]; refine hX _ _ ?hadd ?_; (case hadd => simp; done); clear hX X)
          | (refine PreD_oT rfl rfl rfl rfl rfl rfl rfl ?hb (fun X hX => ?_); (case hb => simp [g0, c2b]; done); simp [g0, c2b]; refine hX _ _ ?hadd ?_; (case hadd => simp; done); clear hX X)
          | (refine PreD_oF rfl rfl rfl rfl rfl ?hb ?_; (case hb => simp [g0, c2b]; done))
          | (refine RunD_nil ?_; refine hK _ _ ?_; clear hK K)
          | (refine RunD_nil ?_)
          | (refine PreD_nil ?_; refine hK _ _ ?_; clear hK K)
          | (refine WD_skip ?_)
          | (refine WD_exit ?_)
          | (refine WD_ret ?_)
          | (refine WD_true rfl ?hb ?_; (case hb => simp [g0, c2b]; done))
          | (refine WD_false rfl ?hb ?_; (case hb => simp [g0, c2b]; done))
          | (refine hK.1 _ _ ?_; clear hK K)
          | (refine hK.2.1 _ _ ?_; clear hK K)
          | (refine hK.2 _ _ _ ?hne ?_; (case hne => simp; done); clear hK K)
          | (refine hK.2.2 _ _ _ ?hne ?_; (case hne => simp; done); clear hK K))
        refine WD_loop (fun m tm h' => ∃ j, j ≤ A.length ∧ m = A.length - j ∧ h0 = h' ∧ (∀ i (hi : i < L.length), i < j → L[i].length = A.length ∧ (∀ x ∈ L[i], 0 ≤ x ∧ x ≤ 3) ∧ el L i i = 0) ∧ tm 1 = .pointer (some ⟨h.next, 0, none⟩) ∧ tm 3 = .int .i64 A.length ∧ tm 4 = .int .i64 (A.take j).sum ∧ tm 31 = .slice s L.length c ∧ tm 32 = .int .i64 L.length ∧ tm 33 = .int .i64 (j : Int)) _
          ⟨0, by simp, rfl, rfl, by simp, by simp, by simp, by simp, by simp, by simp, by simp⟩ ?_
        rintro m tm h' ⟨j, hj, rfl, rfl, hx, e1, e3, e4, e31, e32, e33⟩ K hK
        by_cases hlt : j < A.length
        · have hlt2 : j < L.length := by omega
          obtain ⟨o, i, d, ds, own, ex, es, u, e', hg, hi, hcell, hu⟩ := hL.at hlt2
          obtain ⟨o2, i2, d2, ds2, own2, ex2, es2, e2', hg2, hi2, hcell2⟩ := hA.at hlt
          obtain ⟨s3, d3, f3, _, _⟩ := hu.form
          subst f3
          cases e'
          cases e2'
          have b1 := sum_take c3 j (by omega)
          have b2 := c3 _ (List.getElem_mem hlt)
          have hw := wrap64 (x := (A.take j).sum + A[j]) (by omega) (by omega)
          by_cases d1 : L[j].length = A.length
          · have d1b : ((L[j].length : Int) != (A.length : Int)) = false := by simp [d1]
            repeat (first
              | (refine WD_block (fun K hK => ?_))
              | (refine WD_seq (fun K hK => ?_))
              | (refine WD_region (fun K hK => ?_))
              | (refine RunD_o rfl rfl rfl rfl rfl (fun X hX => ?_); simp [e1, e3, e4, e31, e32, e33, hlt, hlt2, hg, hi, hcell, hg2, hi2, hcell2, g0, hw, d1b]; refine hX _ _ ?_; clear hX X)
              | (refine RunD_s rfl rfl rfl rfl (fun X hX => ?_); simp [e1, e3, e4, e31, e32, e33, hlt, hlt2, hg, hi, hcell, hg2, hi2, hcell2, g0, hw, d1b]; refine hX _ _ ?_; clear hX X)
              | (refine RunD_oT rfl rfl rfl rfl rfl rfl rfl ?hb (fun X hX => ?_); (case hb => simp [e1, e3, e4, e31, e32, e33, hlt, hlt2, hg, hi, hcell, hg2, hi2, hcell2, g0, hw, d1b]; done); simp [e1, e3, e4, e31, e32, e33, hlt, hlt2, hg, hi, hcell, hg2, hi2, hcell2, g0, hw, d1b]; refine hX _ _ ?_; clear hX X)
              | (refine RunD_oF rfl rfl rfl rfl rfl ?hb ?_; (case hb => simp [e1, e3, e4, e31, e32, e33, hlt, hlt2, hg, hi, hcell, hg2, hi2, hcell2, g0, hw, d1b]; done))
              | (refine RunD_oU (c := #[]) rfl rfl rfl rfl rfl ?hb ?_; (case hb => simp [e1, e3, e4, e31, e32, e33, hlt, hlt2, hg, hi, hcell, hg2, hi2, hcell2, g0, hw, d1b]; rfl))
              | (refine PreD_oU (c := #[]) rfl rfl rfl rfl rfl ?hb ?_; (case hb => simp [e1, e3, e4, e31, e32, e33, hlt, hlt2, hg, hi, hcell, hg2, hi2, hcell2, g0, hw, d1b]; rfl))
              | (refine PreD_o rfl rfl rfl rfl rfl (fun X hX => ?_); simp [e1, e3, e4, e31, e32, e33, hlt, hlt2, hg, hi, hcell, hg2, hi2, hcell2, g0, hw, d1b]; refine hX _ _ ?hadd ?_; (case hadd => simp; done); clear hX X)
              | (refine PreD_oT rfl rfl rfl rfl rfl rfl rfl ?hb (fun X hX => ?_); (case hb => simp [e1, e3, e4, e31, e32, e33, hlt, hlt2, hg, hi, hcell, hg2, hi2, hcell2, g0, hw, d1b]; done); simp [e1, e3, e4, e31, e32, e33, hlt, hlt2, hg, hi, hcell, hg2, hi2, hcell2, g0, hw, d1b]; refine hX _ _ ?hadd ?_; (case hadd => simp; done); clear hX X)
              | (refine PreD_oF rfl rfl rfl rfl rfl ?hb ?_; (case hb => simp [e1, e3, e4, e31, e32, e33, hlt, hlt2, hg, hi, hcell, hg2, hi2, hcell2, g0, hw, d1b]; done))
              | (refine RunD_nil ?_; refine hK _ _ ?_; clear hK K)
              | (refine RunD_nil ?_)
              | (refine PreD_nil ?_; refine hK _ _ ?_; clear hK K)
              | (refine WD_skip ?_)
              | (refine WD_exit ?_)
              | (refine WD_ret ?_)
              | (refine WD_true rfl ?hb ?_; (case hb => simp [e1, e3, e4, e31, e32, e33, hlt, hlt2, hg, hi, hcell, hg2, hi2, hcell2, g0, hw, d1b]; done))
              | (refine WD_false rfl ?hb ?_; (case hb => simp [e1, e3, e4, e31, e32, e33, hlt, hlt2, hg, hi, hcell, hg2, hi2, hcell2, g0, hw, d1b]; done))
              | (refine hK.1 _ _ ?_; clear hK K)
              | (refine hK.2.1 _ _ ?_; clear hK K)
              | (refine hK.2 _ _ _ ?hne ?_; (case hne => simp; done); clear hK K)
              | (refine hK.2.2 _ _ _ ?hne ?_; (case hne => simp; done); clear hK K))
            have hc := l1All_ok h0 _ L[j] 0 3 hu
            have ed := el_eq hlt2 (show j < L[j].length by omega)
            by_cases d2 : ∀ x ∈ L[j], 0 ≤ x ∧ x ≤ 3
            · rw [decide_eq_true d2] at hc
              refine RunD_cT rfl rfl rfl rfl rfl rfl ?hb (by simp) (by simp) ?ha (hc) ?_
              (case hb => simp [d1b])
              (case ha => simp [d1b])
              have hj3 : j < L[j].length := by omega
              obtain ⟨o4, i4, d4, ds4, own4, ex4, es4, e4', hg4, hi4, hcell4⟩ := hu.at hj3
              cases e4'
              by_cases d3 : L[j][j] = 0
              · repeat (first
                  | (refine WD_block (fun K hK => ?_))
                  | (refine WD_seq (fun K hK => ?_))
                  | (refine WD_region (fun K hK => ?_))
                  | (refine RunD_o rfl rfl rfl rfl rfl (fun X hX => ?_); simp [hj3, hg4, hi4, hcell4, d3, e33]; refine hX _ _ ?_; clear hX X)
                  | (refine RunD_s rfl rfl rfl rfl (fun X hX => ?_); simp [hj3, hg4, hi4, hcell4, d3, e33]; refine hX _ _ ?_; clear hX X)
                  | (refine RunD_oT rfl rfl rfl rfl rfl rfl rfl ?hb (fun X hX => ?_); (case hb => simp [hj3, hg4, hi4, hcell4, d3, e33]; done); simp [hj3, hg4, hi4, hcell4, d3, e33]; refine hX _ _ ?_; clear hX X)
                  | (refine RunD_oF rfl rfl rfl rfl rfl ?hb ?_; (case hb => simp [hj3, hg4, hi4, hcell4, d3, e33]; done))
                  | (refine RunD_oU (c := #[]) rfl rfl rfl rfl rfl ?hb ?_; (case hb => simp [hj3, hg4, hi4, hcell4, d3, e33]; rfl))
                  | (refine PreD_oU (c := #[]) rfl rfl rfl rfl rfl ?hb ?_; (case hb => simp [hj3, hg4, hi4, hcell4, d3, e33]; rfl))
                  | (refine PreD_o rfl rfl rfl rfl rfl (fun X hX => ?_); simp [hj3, hg4, hi4, hcell4, d3, e33]; refine hX _ _ ?hadd ?_; (case hadd => simp; done); clear hX X)
                  | (refine PreD_oT rfl rfl rfl rfl rfl rfl rfl ?hb (fun X hX => ?_); (case hb => simp [hj3, hg4, hi4, hcell4, d3, e33]; done); simp [hj3, hg4, hi4, hcell4, d3, e33]; refine hX _ _ ?hadd ?_; (case hadd => simp; done); clear hX X)
                  | (refine PreD_oF rfl rfl rfl rfl rfl ?hb ?_; (case hb => simp [hj3, hg4, hi4, hcell4, d3, e33]; done))
                  | (refine RunD_nil ?_; refine hK _ _ ?_; clear hK K)
                  | (refine RunD_nil ?_)
                  | (refine PreD_nil ?_; refine hK _ _ ?_; clear hK K)
                  | (refine WD_skip ?_)
                  | (refine WD_exit ?_)
                  | (refine WD_ret ?_)
                  | (refine WD_true rfl ?hb ?_; (case hb => simp [hj3, hg4, hi4, hcell4, d3, e33]; done))
                  | (refine WD_false rfl ?hb ?_; (case hb => simp [hj3, hg4, hi4, hcell4, d3, e33]; done))
                  | (refine hK.1 _ _ ?_; clear hK K)
                  | (refine hK.2.1 _ _ ?_; clear hK K)
                  | (refine hK.2 _ _ _ ?hne ?_; (case hne => simp; done); clear hK K)
                  | (refine hK.2.2 _ _ _ ?hne ?_; (case hne => simp; done); clear hK K))
                refine hK.1 (A.length - (j + 1)) _ _ (by omega) ⟨j + 1, by omega, rfl, rfl, fun i hi hij => ?_, by simp [e1], by simp [e3], by simp [sum_step hlt], by simp [e31], by simp [e32], ?_⟩
                · rcases Nat.lt_succ_iff_lt_or_eq.1 hij with q | q
                  · exact hx i hi q
                  · subst q; exact ⟨d1, d2, by rw [ed, d3]⟩
                · simp; exact wrap64 (by omega) (by omega)
              · repeat (first
                  | (refine WD_block (fun K hK => ?_))
                  | (refine WD_seq (fun K hK => ?_))
                  | (refine WD_region (fun K hK => ?_))
                  | (refine RunD_o rfl rfl rfl rfl rfl (fun X hX => ?_); simp [hj3, hg4, hi4, hcell4, d3, e33]; refine hX _ _ ?_; clear hX X)
                  | (refine RunD_s rfl rfl rfl rfl (fun X hX => ?_); simp [hj3, hg4, hi4, hcell4, d3, e33]; refine hX _ _ ?_; clear hX X)
                  | (refine RunD_oT rfl rfl rfl rfl rfl rfl rfl ?hb (fun X hX => ?_); (case hb => simp [hj3, hg4, hi4, hcell4, d3, e33]; done); simp [hj3, hg4, hi4, hcell4, d3, e33]; refine hX _ _ ?_; clear hX X)
                  | (refine RunD_oF rfl rfl rfl rfl rfl ?hb ?_; (case hb => simp [hj3, hg4, hi4, hcell4, d3, e33]; done))
                  | (refine RunD_oU (c := #[]) rfl rfl rfl rfl rfl ?hb ?_; (case hb => simp [hj3, hg4, hi4, hcell4, d3, e33]; rfl))
                  | (refine PreD_oU (c := #[]) rfl rfl rfl rfl rfl ?hb ?_; (case hb => simp [hj3, hg4, hi4, hcell4, d3, e33]; rfl))
                  | (refine PreD_o rfl rfl rfl rfl rfl (fun X hX => ?_); simp [hj3, hg4, hi4, hcell4, d3, e33]; refine hX _ _ ?hadd ?_; (case hadd => simp; done); clear hX X)
                  | (refine PreD_oT rfl rfl rfl rfl rfl rfl rfl ?hb (fun X hX => ?_); (case hb => simp [hj3, hg4, hi4, hcell4, d3, e33]; done); simp [hj3, hg4, hi4, hcell4, d3, e33]; refine hX _ _ ?hadd ?_; (case hadd => simp; done); clear hX X)
                  | (refine PreD_oF rfl rfl rfl rfl rfl ?hb ?_; (case hb => simp [hj3, hg4, hi4, hcell4, d3, e33]; done))
                  | (refine RunD_nil ?_; refine hK _ _ ?_; clear hK K)
                  | (refine RunD_nil ?_)
                  | (refine PreD_nil ?_; refine hK _ _ ?_; clear hK K)
                  | (refine WD_skip ?_)
                  | (refine WD_exit ?_)
                  | (refine WD_ret ?_)
                  | (refine WD_true rfl ?hb ?_; (case hb => simp [hj3, hg4, hi4, hcell4, d3, e33]; done))
                  | (refine WD_false rfl ?hb ?_; (case hb => simp [hj3, hg4, hi4, hcell4, d3, e33]; done))
                  | (refine hK.1 _ _ ?_; clear hK K)
                  | (refine hK.2.1 _ _ ?_; clear hK K)
                  | (refine hK.2 _ _ _ ?hne ?_; (case hne => simp; done); clear hK K)
                  | (refine hK.2.2 _ _ _ ?hne ?_; (case hne => simp; done); clear hK K))
                exact done_ret rfl (by rw [goodB_false fun q => d3 (by rw [← ed]; exact q.2.2.2.2.2.1 j hlt)]; simp [k0])
            · rw [decide_eq_false d2] at hc
              refine RunD_cT rfl rfl rfl rfl rfl rfl ?hb (by simp) (by simp) ?ha (hc) ?_
              (case hb => simp [d1b])
              (case ha => simp [d1b])
              repeat (first
                | (refine WD_block (fun K hK => ?_))
                | (refine WD_seq (fun K hK => ?_))
                | (refine WD_region (fun K hK => ?_))
                | (refine RunD_o rfl rfl rfl rfl rfl (fun X hX => ?_); simp [e33]; refine hX _ _ ?_; clear hX X)
                | (refine RunD_s rfl rfl rfl rfl (fun X hX => ?_); simp [e33]; refine hX _ _ ?_; clear hX X)
                | (refine RunD_oT rfl rfl rfl rfl rfl rfl rfl ?hb (fun X hX => ?_); (case hb => simp [e33]; done); simp [e33]; refine hX _ _ ?_; clear hX X)
                | (refine RunD_oF rfl rfl rfl rfl rfl ?hb ?_; (case hb => simp [e33]; done))
                | (refine RunD_oU (c := #[]) rfl rfl rfl rfl rfl ?hb ?_; (case hb => simp [e33]; rfl))
                | (refine PreD_oU (c := #[]) rfl rfl rfl rfl rfl ?hb ?_; (case hb => simp [e33]; rfl))
                | (refine PreD_o rfl rfl rfl rfl rfl (fun X hX => ?_); simp [e33]; refine hX _ _ ?hadd ?_; (case hadd => simp; done); clear hX X)
                | (refine PreD_oT rfl rfl rfl rfl rfl rfl rfl ?hb (fun X hX => ?_); (case hb => simp [e33]; done); simp [e33]; refine hX _ _ ?hadd ?_; (case hadd => simp; done); clear hX X)
                | (refine PreD_oF rfl rfl rfl rfl rfl ?hb ?_; (case hb => simp [e33]; done))
                | (refine RunD_nil ?_; refine hK _ _ ?_; clear hK K)
                | (refine RunD_nil ?_)
                | (refine PreD_nil ?_; refine hK _ _ ?_; clear hK K)
                | (refine WD_skip ?_)
                | (refine WD_exit ?_)
                | (refine WD_ret ?_)
                | (refine WD_true rfl ?hb ?_; (case hb => simp [e33]; done))
                | (refine WD_false rfl ?hb ?_; (case hb => simp [e33]; done))
                | (refine hK.1 _ _ ?_; clear hK K)
                | (refine hK.2.1 _ _ ?_; clear hK K)
                | (refine hK.2 _ _ _ ?hne ?_; (case hne => simp; done); clear hK K)
                | (refine hK.2.2 _ _ _ ?hne ?_; (case hne => simp; done); clear hK K))
              exact done_ret rfl (by rw [goodB_false fun q => d2 (q.2.2.2.1 _ (List.getElem_mem hlt2)).2]; simp [k0])
          · have d1b : ((L[j].length : Int) != (A.length : Int)) = true := by simp [d1]
            repeat (first
              | (refine WD_block (fun K hK => ?_))
              | (refine WD_seq (fun K hK => ?_))
              | (refine WD_region (fun K hK => ?_))
              | (refine RunD_o rfl rfl rfl rfl rfl (fun X hX => ?_); simp [e1, e3, e4, e31, e32, e33, hlt, hlt2, hg, hi, hcell, hg2, hi2, hcell2, g0, hw, d1b]; refine hX _ _ ?_; clear hX X)
              | (refine RunD_s rfl rfl rfl rfl (fun X hX => ?_); simp [e1, e3, e4, e31, e32, e33, hlt, hlt2, hg, hi, hcell, hg2, hi2, hcell2, g0, hw, d1b]; refine hX _ _ ?_; clear hX X)
              | (refine RunD_oT rfl rfl rfl rfl rfl rfl rfl ?hb (fun X hX => ?_); (case hb => simp [e1, e3, e4, e31, e32, e33, hlt, hlt2, hg, hi, hcell, hg2, hi2, hcell2, g0, hw, d1b]; done); simp [e1, e3, e4, e31, e32, e33, hlt, hlt2, hg, hi, hcell, hg2, hi2, hcell2, g0, hw, d1b]; refine hX _ _ ?_; clear hX X)
              | (refine RunD_oF rfl rfl rfl rfl rfl ?hb ?_; (case hb => simp [e1, e3, e4, e31, e32, e33, hlt, hlt2, hg, hi, hcell, hg2, hi2, hcell2, g0, hw, d1b]; done))
              | (refine RunD_oU (c := #[]) rfl rfl rfl rfl rfl ?hb ?_; (case hb => simp [e1, e3, e4, e31, e32, e33, hlt, hlt2, hg, hi, hcell, hg2, hi2, hcell2, g0, hw, d1b]; rfl))
              | (refine PreD_oU (c := #[]) rfl rfl rfl rfl rfl ?hb ?_; (case hb => simp [e1, e3, e4, e31, e32, e33, hlt, hlt2, hg, hi, hcell, hg2, hi2, hcell2, g0, hw, d1b]; rfl))
              | (refine PreD_o rfl rfl rfl rfl rfl (fun X hX => ?_); simp [e1, e3, e4, e31, e32, e33, hlt, hlt2, hg, hi, hcell, hg2, hi2, hcell2, g0, hw, d1b]; refine hX _ _ ?hadd ?_; (case hadd => simp; done); clear hX X)
              | (refine PreD_oT rfl rfl rfl rfl rfl rfl rfl ?hb (fun X hX => ?_); (case hb => simp [e1, e3, e4, e31, e32, e33, hlt, hlt2, hg, hi, hcell, hg2, hi2, hcell2, g0, hw, d1b]; done); simp [e1, e3, e4, e31, e32, e33, hlt, hlt2, hg, hi, hcell, hg2, hi2, hcell2, g0, hw, d1b]; refine hX _ _ ?hadd ?_; (case hadd => simp; done); clear hX X)
              | (refine PreD_oF rfl rfl rfl rfl rfl ?hb ?_; (case hb => simp [e1, e3, e4, e31, e32, e33, hlt, hlt2, hg, hi, hcell, hg2, hi2, hcell2, g0, hw, d1b]; done))
              | (refine RunD_nil ?_; refine hK _ _ ?_; clear hK K)
              | (refine RunD_nil ?_)
              | (refine PreD_nil ?_; refine hK _ _ ?_; clear hK K)
              | (refine WD_skip ?_)
              | (refine WD_exit ?_)
              | (refine WD_ret ?_)
              | (refine WD_true rfl ?hb ?_; (case hb => simp [e1, e3, e4, e31, e32, e33, hlt, hlt2, hg, hi, hcell, hg2, hi2, hcell2, g0, hw, d1b]; done))
              | (refine WD_false rfl ?hb ?_; (case hb => simp [e1, e3, e4, e31, e32, e33, hlt, hlt2, hg, hi, hcell, hg2, hi2, hcell2, g0, hw, d1b]; done))
              | (refine hK.1 _ _ ?_; clear hK K)
              | (refine hK.2.1 _ _ ?_; clear hK K)
              | (refine hK.2 _ _ _ ?hne ?_; (case hne => simp; done); clear hK K)
              | (refine hK.2.2 _ _ _ ?hne ?_; (case hne => simp; done); clear hK K))
            exact done_ret rfl (by rw [goodB_false fun q => d1 (q.2.2.2.1 _ (List.getElem_mem hlt2)).1]; simp [k0])
        · have hlt2 : ¬ j < L.length := by omega
          repeat (first
            | (refine WD_block (fun K hK => ?_))
            | (refine WD_seq (fun K hK => ?_))
            | (refine WD_region (fun K hK => ?_))
            | (refine RunD_o rfl rfl rfl rfl rfl (fun X hX => ?_); simp [e1, e3, e4, e31, e32, e33, hlt, hlt2, g0]; refine hX _ _ ?_; clear hX X)
            | (refine RunD_s rfl rfl rfl rfl (fun X hX => ?_); simp [e1, e3, e4, e31, e32, e33, hlt, hlt2, g0]; refine hX _ _ ?_; clear hX X)
            | (refine RunD_oT rfl rfl rfl rfl rfl rfl rfl ?hb (fun X hX => ?_); (case hb => simp [e1, e3, e4, e31, e32, e33, hlt, hlt2, g0]; done); simp [e1, e3, e4, e31, e32, e33, hlt, hlt2, g0]; refine hX _ _ ?_; clear hX X)
            | (refine RunD_oF rfl rfl rfl rfl rfl ?hb ?_; (case hb => simp [e1, e3, e4, e31, e32, e33, hlt, hlt2, g0]; done))
            | (refine RunD_oU (c := #[]) rfl rfl rfl rfl rfl ?hb ?_; (case hb => simp [e1, e3, e4, e31, e32, e33, hlt, hlt2, g0]; rfl))
            | (refine PreD_oU (c := #[]) rfl rfl rfl rfl rfl ?hb ?_; (case hb => simp [e1, e3, e4, e31, e32, e33, hlt, hlt2, g0]; rfl))
            | (refine PreD_o rfl rfl rfl rfl rfl (fun X hX => ?_); simp [e1, e3, e4, e31, e32, e33, hlt, hlt2, g0]; refine hX _ _ ?hadd ?_; (case hadd => simp; done); clear hX X)
            | (refine PreD_oT rfl rfl rfl rfl rfl rfl rfl ?hb (fun X hX => ?_); (case hb => simp [e1, e3, e4, e31, e32, e33, hlt, hlt2, g0]; done); simp [e1, e3, e4, e31, e32, e33, hlt, hlt2, g0]; refine hX _ _ ?hadd ?_; (case hadd => simp; done); clear hX X)
            | (refine PreD_oF rfl rfl rfl rfl rfl ?hb ?_; (case hb => simp [e1, e3, e4, e31, e32, e33, hlt, hlt2, g0]; done))
            | (refine RunD_nil ?_; refine hK _ _ ?_; clear hK K)
            | (refine RunD_nil ?_)
            | (refine PreD_nil ?_; refine hK _ _ ?_; clear hK K)
            | (refine WD_skip ?_)
            | (refine WD_exit ?_)
            | (refine WD_ret ?_)
            | (refine WD_true rfl ?hb ?_; (case hb => simp [e1, e3, e4, e31, e32, e33, hlt, hlt2, g0]; done))
            | (refine WD_false rfl ?hb ?_; (case hb => simp [e1, e3, e4, e31, e32, e33, hlt, hlt2, g0]; done))
            | (refine hK.1 _ _ ?_; clear hK K)
            | (refine hK.2.1 _ _ ?_; clear hK K)
            | (refine hK.2 _ _ _ ?hne ?_; (case hne => simp; done); clear hK K)
            | (refine hK.2.2 _ _ _ ?hne ?_; (case hne => simp; done); clear hK K))
          have hj' : j = A.length := by omega
          subst hj'
          rw [List.take_length] at e4
          have hrow : ∀ i (hi : i < L.length), L[i].length = A.length := fun i hi => (hx i hi (by omega)).1
          refine WD_loop (fun m tm h' => ∃ j, j ≤ L.length ∧ m = L.length - j ∧ h0 = h' ∧ (∀ i, i < j → ∀ k, k < A.length → el L i k = el L k i) ∧ tm 1 = .pointer (some ⟨h.next, 0, none⟩) ∧ tm 4 = .int .i64 A.sum ∧ tm 63 = .slice s L.length c ∧ tm 64 = .int .i64 L.length ∧ tm 65 = .int .i64 (j : Int)) _
            ⟨0, by simp, rfl, rfl, by simp, by simp [e1], by simp [e4], by simp, by simp, by simp⟩ ?_
          rintro m tm h' ⟨j, hj, rfl, rfl, hy, e1, e4, e63, e64, e65⟩ K hK
          by_cases hlt : j < L.length
          · obtain ⟨o, i, d, ds, own, ex, es, u, e', hg, hi, hcell, hu⟩ := hL.at hlt
            obtain ⟨s3, d3, f3, _, _⟩ := hu.form
            subst f3
            cases e'
            have hrj := hrow j hlt
            repeat (first
              | (refine WD_block (fun K hK => ?_))
              | (refine WD_seq (fun K hK => ?_))
              | (refine WD_region (fun K hK => ?_))
              | (refine RunD_o rfl rfl rfl rfl rfl (fun X hX => ?_); simp [e1, e4, e63, e64, e65, hlt, hg, hi, hcell]; refine hX _ _ ?_; clear hX X)
              | (refine RunD_s rfl rfl rfl rfl (fun X hX => ?_); simp [e1, e4, e63, e64, e65, hlt, hg, hi, hcell]; refine hX _ _ ?_; clear hX X)
              | (refine RunD_oT rfl rfl rfl rfl rfl rfl rfl ?hb (fun X hX => ?_); (case hb => simp [e1, e4, e63, e64, e65, hlt, hg, hi, hcell]; done); simp [e1, e4, e63, e64, e65, hlt, hg, hi, hcell]; refine hX _ _ ?_; clear hX X)
              | (refine RunD_oF rfl rfl rfl rfl rfl ?hb ?_; (case hb => simp [e1, e4, e63, e64, e65, hlt, hg, hi, hcell]; done))
              | (refine RunD_oU (c := #[]) rfl rfl rfl rfl rfl ?hb ?_; (case hb => simp [e1, e4, e63, e64, e65, hlt, hg, hi, hcell]; rfl))
              | (refine PreD_oU (c := #[]) rfl rfl rfl rfl rfl ?hb ?_; (case hb => simp [e1, e4, e63, e64, e65, hlt, hg, hi, hcell]; rfl))
              | (refine PreD_o rfl rfl rfl rfl rfl (fun X hX => ?_); simp [e1, e4, e63, e64, e65, hlt, hg, hi, hcell]; refine hX _ _ ?hadd ?_; (case hadd => simp; done); clear hX X)
              | (refine PreD_oT rfl rfl rfl rfl rfl rfl rfl ?hb (fun X hX => ?_); (case hb => simp [e1, e4, e63, e64, e65, hlt, hg, hi, hcell]; done); simp [e1, e4, e63, e64, e65, hlt, hg, hi, hcell]; refine hX _ _ ?hadd ?_; (case hadd => simp; done); clear hX X)
              | (refine PreD_oF rfl rfl rfl rfl rfl ?hb ?_; (case hb => simp [e1, e4, e63, e64, e65, hlt, hg, hi, hcell]; done))
              | (refine RunD_nil ?_; refine hK _ _ ?_; clear hK K)
              | (refine RunD_nil ?_)
              | (refine PreD_nil ?_; refine hK _ _ ?_; clear hK K)
              | (refine WD_skip ?_)
              | (refine WD_exit ?_)
              | (refine WD_ret ?_)
              | (refine WD_true rfl ?hb ?_; (case hb => simp [e1, e4, e63, e64, e65, hlt, hg, hi, hcell]; done))
              | (refine WD_false rfl ?hb ?_; (case hb => simp [e1, e4, e63, e64, e65, hlt, hg, hi, hcell]; done))
              | (refine hK.1 _ _ ?_; clear hK K)
              | (refine hK.2.1 _ _ ?_; clear hK K)
              | (refine hK.2 _ _ _ ?hne ?_; (case hne => simp; done); clear hK K)
              | (refine hK.2.2 _ _ _ ?hne ?_; (case hne => simp; done); clear hK K))
            refine WD_loop (fun m tm h' => ∃ k, k ≤ L[j].length ∧ m = L[j].length - k ∧ h0 = h' ∧ (∀ i, i < k → el L j i = el L i j) ∧ tm 1 = .pointer (some ⟨h.next, 0, none⟩) ∧ tm 4 = .int .i64 A.sum ∧ tm 63 = .slice (some ⟨o, i, none⟩) L.length c ∧ tm 64 = .int .i64 L.length ∧ tm 65 = .int .i64 (j : Int) ∧ tm 7 = .int .i64 (j : Int) ∧ tm 70 = .slice s3 L[j].length d3 ∧ tm 71 = .int .i64 L[j].length ∧ tm 72 = .int .i64 (k : Int)) _
              ⟨0, by simp, rfl, rfl, by simp, by simp [e1], by simp [e4], by simp [e63], by simp [e64], by simp [e65], by simp, by simp, by simp, by simp⟩ ?_
            rintro m tm h' ⟨k, hk, rfl, rfl, hz, e1, e4, e63, e64, e65, e7, e70, e71, e72⟩ K hK
            by_cases hlt3 : k < L[j].length
            · have hkL : k < L.length := by omega
              obtain ⟨o2, i2, d2, ds2, own2, ex2, es2, e2', hg2, hi2, hcell2⟩ := hu.at hlt3
              obtain ⟨o5, i5, d5, ds5, own5, ex5, es5, u5, e5', hg5, hi5, hcell5, hu5⟩ := hL.at hkL
              cases e2'
              cases e5'
              have hrk := hrow k hkL
              have hjk : j < L[k].length := by omega
              obtain ⟨o6, i6, d6, ds6, own6, ex6, es6, e6', hg6, hi6, hcell6⟩ := hu5.at hjk
              subst e6'
              have ed1 := el_eq hlt hlt3
              have ed2 := el_eq hkL hjk
              by_cases hq : L[k][j] = L[j][k]
              · repeat (first
                  | (refine WD_block (fun K hK => ?_))
                  | (refine WD_seq (fun K hK => ?_))
                  | (refine WD_region (fun K hK => ?_))
                  | (refine RunD_o rfl rfl rfl rfl rfl (fun X hX => ?_); simp [e1, e4, e63, e64, e65, e7, e70, e71, e72, hlt3, hkL, hjk, hg2, hi2, hcell2, hg5, hi5, hcell5, hg6, hi6, hcell6, g0, hq]; refine hX _ _ ?_; clear hX X)
                  | (refine RunD_s rfl rfl rfl rfl (fun X hX => ?_); simp [e1, e4, e63, e64, e65, e7, e70, e71, e72, hlt3, hkL, hjk, hg2, hi2, hcell2, hg5, hi5, hcell5, hg6, hi6, hcell6, g0, hq]; refine hX _ _ ?_; clear hX X)
                  | (refine RunD_oT rfl rfl rfl rfl rfl rfl rfl ?hb (fun X hX => ?_); (case hb => simp [e1, e4, e63, e64, e65, e7, e70, e71, e72, hlt3, hkL, hjk, hg2, hi2, hcell2, hg5, hi5, hcell5, hg6, hi6, hcell6, g0, hq]; done); simp [e1, e4, e63, e64, e65, e7, e70, e71, e72, hlt3, hkL, hjk, hg2, hi2, hcell2, hg5, hi5, hcell5, hg6, hi6, hcell6, g0, hq]; refine hX _ _ ?_; clear hX X)
                  | (refine RunD_oF rfl rfl rfl rfl rfl ?hb ?_; (case hb => simp [e1, e4, e63, e64, e65, e7, e70, e71, e72, hlt3, hkL, hjk, hg2, hi2, hcell2, hg5, hi5, hcell5, hg6, hi6, hcell6, g0, hq]; done))
                  | (refine RunD_oU (c := #[]) rfl rfl rfl rfl rfl ?hb ?_; (case hb => simp [e1, e4, e63, e64, e65, e7, e70, e71, e72, hlt3, hkL, hjk, hg2, hi2, hcell2, hg5, hi5, hcell5, hg6, hi6, hcell6, g0, hq]; rfl))
                  | (refine PreD_oU (c := #[]) rfl rfl rfl rfl rfl ?hb ?_; (case hb => simp [e1, e4, e63, e64, e65, e7, e70, e71, e72, hlt3, hkL, hjk, hg2, hi2, hcell2, hg5, hi5, hcell5, hg6, hi6, hcell6, g0, hq]; rfl))
                  | (refine PreD_o rfl rfl rfl rfl rfl (fun X hX => ?_); simp [e1, e4, e63, e64, e65, e7, e70, e71, e72, hlt3, hkL, hjk, hg2, hi2, hcell2, hg5, hi5, hcell5, hg6, hi6, hcell6, g0, hq]; refine hX _ _ ?hadd ?_; (case hadd => simp; done); clear hX X)
                  | (refine PreD_oT rfl rfl rfl rfl rfl rfl rfl ?hb (fun X hX => ?_); (case hb => simp [e1, e4, e63, e64, e65, e7, e70, e71, e72, hlt3, hkL, hjk, hg2, hi2, hcell2, hg5, hi5, hcell5, hg6, hi6, hcell6, g0, hq]; done); simp [e1, e4, e63, e64, e65, e7, e70, e71, e72, hlt3, hkL, hjk, hg2, hi2, hcell2, hg5, hi5, hcell5, hg6, hi6, hcell6, g0, hq]; refine hX _ _ ?hadd ?_; (case hadd => simp; done); clear hX X)
                  | (refine PreD_oF rfl rfl rfl rfl rfl ?hb ?_; (case hb => simp [e1, e4, e63, e64, e65, e7, e70, e71, e72, hlt3, hkL, hjk, hg2, hi2, hcell2, hg5, hi5, hcell5, hg6, hi6, hcell6, g0, hq]; done))
                  | (refine RunD_nil ?_; refine hK _ _ ?_; clear hK K)
                  | (refine RunD_nil ?_)
                  | (refine PreD_nil ?_; refine hK _ _ ?_; clear hK K)
                  | (refine WD_skip ?_)
                  | (refine WD_exit ?_)
                  | (refine WD_ret ?_)
                  | (refine WD_true rfl ?hb ?_; (case hb => simp [e1, e4, e63, e64, e65, e7, e70, e71, e72, hlt3, hkL, hjk, hg2, hi2, hcell2, hg5, hi5, hcell5, hg6, hi6, hcell6, g0, hq]; done))
                  | (refine WD_false rfl ?hb ?_; (case hb => simp [e1, e4, e63, e64, e65, e7, e70, e71, e72, hlt3, hkL, hjk, hg2, hi2, hcell2, hg5, hi5, hcell5, hg6, hi6, hcell6, g0, hq]; done))
                  | (refine hK.1 _ _ ?_; clear hK K)
                  | (refine hK.2.1 _ _ ?_; clear hK K)
                  | (refine hK.2 _ _ _ ?hne ?_; (case hne => simp; done); clear hK K)
                  | (refine hK.2.2 _ _ _ ?hne ?_; (case hne => simp; done); clear hK K))
                refine hK.1 (L[j].length - (k + 1)) _ _ (by omega) ⟨k + 1, by omega, rfl, rfl, fun i hi => ?_, by simp [e1], by simp [e4], by simp [e63], by simp [e64], by simp [e65], by simp [e7], by simp [e70], by simp [e71], ?_⟩
                · rcases Nat.lt_succ_iff_lt_or_eq.1 hi with q | q
                  · exact hz i q
                  · subst q; rw [ed1, ed2, hq]
                · simp; exact wrap64 (by omega) (by omega)
              · repeat (first
                  | (refine WD_block (fun K hK => ?_))
                  | (refine WD_seq (fun K hK => ?_))
                  | (refine WD_region (fun K hK => ?_))
                  | (refine RunD_o rfl rfl rfl rfl rfl (fun X hX => ?_); simp [e1, e4, e63, e64, e65, e7, e70, e71, e72, hlt3, hkL, hjk, hg2, hi2, hcell2, hg5, hi5, hcell5, hg6, hi6, hcell6, g0, hq]; refine hX _ _ ?_; clear hX X)
                  | (refine RunD_s rfl rfl rfl rfl (fun X hX => ?_); simp [e1, e4, e63, e64, e65, e7, e70, e71, e72, hlt3, hkL, hjk, hg2, hi2, hcell2, hg5, hi5, hcell5, hg6, hi6, hcell6, g0, hq]; refine hX _ _ ?_; clear hX X)
                  | (refine RunD_oT rfl rfl rfl rfl rfl rfl rfl ?hb (fun X hX => ?_); (case hb => simp [e1, e4, e63, e64, e65, e7, e70, e71, e72, hlt3, hkL, hjk, hg2, hi2, hcell2, hg5, hi5, hcell5, hg6, hi6, hcell6, g0, hq]; done); simp [e1, e4, e63, e64, e65, e7, e70, e71, e72, hlt3, hkL, hjk, hg2, hi2, hcell2, hg5, hi5, hcell5, hg6, hi6, hcell6, g0, hq]; refine hX _ _ ?_; clear hX X)
                  | (refine RunD_oF rfl rfl rfl rfl rfl ?hb ?_; (case hb => simp [e1, e4, e63, e64, e65, e7, e70, e71, e72, hlt3, hkL, hjk, hg2, hi2, hcell2, hg5, hi5, hcell5, hg6, hi6, hcell6, g0, hq]; done))
                  | (refine RunD_oU (c := #[]) rfl rfl rfl rfl rfl ?hb ?_; (case hb => simp [e1, e4, e63, e64, e65, e7, e70, e71, e72, hlt3, hkL, hjk, hg2, hi2, hcell2, hg5, hi5, hcell5, hg6, hi6, hcell6, g0, hq]; rfl))
                  | (refine PreD_oU (c := #[]) rfl rfl rfl rfl rfl ?hb ?_; (case hb => simp [e1, e4, e63, e64, e65, e7, e70, e71, e72, hlt3, hkL, hjk, hg2, hi2, hcell2, hg5, hi5, hcell5, hg6, hi6, hcell6, g0, hq]; rfl))
                  | (refine PreD_o rfl rfl rfl rfl rfl (fun X hX => ?_); simp [e1, e4, e63, e64, e65, e7, e70, e71, e72, hlt3, hkL, hjk, hg2, hi2, hcell2, hg5, hi5, hcell5, hg6, hi6, hcell6, g0, hq]; refine hX _ _ ?hadd ?_; (case hadd => simp; done); clear hX X)
                  | (refine PreD_oT rfl rfl rfl rfl rfl rfl rfl ?hb (fun X hX => ?_); (case hb => simp [e1, e4, e63, e64, e65, e7, e70, e71, e72, hlt3, hkL, hjk, hg2, hi2, hcell2, hg5, hi5, hcell5, hg6, hi6, hcell6, g0, hq]; done); simp [e1, e4, e63, e64, e65, e7, e70, e71, e72, hlt3, hkL, hjk, hg2, hi2, hcell2, hg5, hi5, hcell5, hg6, hi6, hcell6, g0, hq]; refine hX _ _ ?hadd ?_; (case hadd => simp; done); clear hX X)
                  | (refine PreD_oF rfl rfl rfl rfl rfl ?hb ?_; (case hb => simp [e1, e4, e63, e64, e65, e7, e70, e71, e72, hlt3, hkL, hjk, hg2, hi2, hcell2, hg5, hi5, hcell5, hg6, hi6, hcell6, g0, hq]; done))
                  | (refine RunD_nil ?_; refine hK _ _ ?_; clear hK K)
                  | (refine RunD_nil ?_)
                  | (refine PreD_nil ?_; refine hK _ _ ?_; clear hK K)
                  | (refine WD_skip ?_)
                  | (refine WD_exit ?_)
                  | (refine WD_ret ?_)
                  | (refine WD_true rfl ?hb ?_; (case hb => simp [e1, e4, e63, e64, e65, e7, e70, e71, e72, hlt3, hkL, hjk, hg2, hi2, hcell2, hg5, hi5, hcell5, hg6, hi6, hcell6, g0, hq]; done))
                  | (refine WD_false rfl ?hb ?_; (case hb => simp [e1, e4, e63, e64, e65, e7, e70, e71, e72, hlt3, hkL, hjk, hg2, hi2, hcell2, hg5, hi5, hcell5, hg6, hi6, hcell6, g0, hq]; done))
                  | (refine hK.1 _ _ ?_; clear hK K)
                  | (refine hK.2.1 _ _ ?_; clear hK K)
                  | (refine hK.2 _ _ _ ?hne ?_; (case hne => simp; done); clear hK K)
                  | (refine hK.2.2 _ _ _ ?hne ?_; (case hne => simp; done); clear hK K))
                exact done_ret rfl (by rw [goodB_false fun q => hq (by rw [← ed1, ← ed2]; exact q.2.2.2.2.1 k (by omega) j (by omega))]; simp [k0])
            · repeat (first
                | (refine WD_block (fun K hK => ?_))
                | (refine WD_seq (fun K hK => ?_))
                | (refine WD_region (fun K hK => ?_))
                | (refine RunD_o rfl rfl rfl rfl rfl (fun X hX => ?_); simp [e1, e4, e63, e64, e65, e7, e70, e71, e72, hlt3]; refine hX _ _ ?_; clear hX X)
                | (refine RunD_s rfl rfl rfl rfl (fun X hX => ?_); simp [e1, e4, e63, e64, e65, e7, e70, e71, e72, hlt3]; refine hX _ _ ?_; clear hX X)
                | (refine RunD_oT rfl rfl rfl rfl rfl rfl rfl ?hb (fun X hX => ?_); (case hb => simp [e1, e4, e63, e64, e65, e7, e70, e71, e72, hlt3]; done); simp [e1, e4, e63, e64, e65, e7, e70, e71, e72, hlt3]; refine hX _ _ ?_; clear hX X)
                | (refine RunD_oF rfl rfl rfl rfl rfl ?hb ?_; (case hb => simp [e1, e4, e63, e64, e65, e7, e70, e71, e72, hlt3]; done))
                | (refine RunD_oU (c := #[]) rfl rfl rfl rfl rfl ?hb ?_; (case hb => simp [e1, e4, e63, e64, e65, e7, e70, e71, e72, hlt3]; rfl))
                | (refine PreD_oU (c := #[]) rfl rfl rfl rfl rfl ?hb ?_; (case hb => simp [e1, e4, e63, e64, e65, e7, e70, e71, e72, hlt3]; rfl))
                | (refine PreD_o rfl rfl rfl rfl rfl (fun X hX => ?_); simp [e1, e4, e63, e64, e65, e7, e70, e71, e72, hlt3]; refine hX _ _ ?hadd ?_; (case hadd => simp; done); clear hX X)
                | (refine PreD_oT rfl rfl rfl rfl rfl rfl rfl ?hb (fun X hX => ?_); (case hb => simp [e1, e4, e63, e64, e65, e7, e70, e71, e72, hlt3]; done); simp [e1, e4, e63, e64, e65, e7, e70, e71, e72, hlt3]; refine hX _ _ ?hadd ?_; (case hadd => simp; done); clear hX X)
                | (refine PreD_oF rfl rfl rfl rfl rfl ?hb ?_; (case hb => simp [e1, e4, e63, e64, e65, e7, e70, e71, e72, hlt3]; done))
                | (refine RunD_nil ?_; refine hK _ _ ?_; clear hK K)
                | (refine RunD_nil ?_)
                | (refine PreD_nil ?_; refine hK _ _ ?_; clear hK K)
                | (refine WD_skip ?_)
                | (refine WD_exit ?_)
                | (refine WD_ret ?_)
                | (refine WD_true rfl ?hb ?_; (case hb => simp [e1, e4, e63, e64, e65, e7, e70, e71, e72, hlt3]; done))
                | (refine WD_false rfl ?hb ?_; (case hb => simp [e1, e4, e63, e64, e65, e7, e70, e71, e72, hlt3]; done))
                | (refine hK.1 _ _ ?_; clear hK K)
                | (refine hK.2.1 _ _ ?_; clear hK K)
                | (refine hK.2 _ _ _ ?hne ?_; (case hne => simp; done); clear hK K)
                | (refine hK.2.2 _ _ _ ?hne ?_; (case hne => simp; done); clear hK K))
              refine hK.1 (L.length - (j + 1)) _ _ (by omega) ⟨j + 1, by omega, rfl, rfl, fun i hi k' hk' => ?_, by simp [e1], by simp [e4], by simp [e63], by simp [e64], ?_⟩
              · rcases Nat.lt_succ_iff_lt_or_eq.1 hi with q | q
                · exact hy i q k' hk'
                · subst q; exact hz k' (by omega)
              · simp; exact wrap64 (by omega) (by omega)
          · repeat (first
              | (refine WD_block (fun K hK => ?_))
              | (refine WD_seq (fun K hK => ?_))
              | (refine WD_region (fun K hK => ?_))
              | (refine RunD_o rfl rfl rfl rfl rfl (fun X hX => ?_); simp [e1, e4, e63, e64, e65, hlt]; refine hX _ _ ?_; clear hX X)
              | (refine RunD_s rfl rfl rfl rfl (fun X hX => ?_); simp [e1, e4, e63, e64, e65, hlt]; refine hX _ _ ?_; clear hX X)
              | (refine RunD_oT rfl rfl rfl rfl rfl rfl rfl ?hb (fun X hX => ?_); (case hb => simp [e1, e4, e63, e64, e65, hlt]; done); simp [e1, e4, e63, e64, e65, hlt]; refine hX _ _ ?_; clear hX X)
              | (refine RunD_oF rfl rfl rfl rfl rfl ?hb ?_; (case hb => simp [e1, e4, e63, e64, e65, hlt]; done))
              | (refine RunD_oU (c := #[]) rfl rfl rfl rfl rfl ?hb ?_; (case hb => simp [e1, e4, e63, e64, e65, hlt]; rfl))
              | (refine PreD_oU (c := #[]) rfl rfl rfl rfl rfl ?hb ?_; (case hb => simp [e1, e4, e63, e64, e65, hlt]; rfl))
              | (refine PreD_o rfl rfl rfl rfl rfl (fun X hX => ?_); simp [e1, e4, e63, e64, e65, hlt]; refine hX _ _ ?hadd ?_; (case hadd => simp; done); clear hX X)
              | (refine PreD_oT rfl rfl rfl rfl rfl rfl rfl ?hb (fun X hX => ?_); (case hb => simp [e1, e4, e63, e64, e65, hlt]; done); simp [e1, e4, e63, e64, e65, hlt]; refine hX _ _ ?hadd ?_; (case hadd => simp; done); clear hX X)
              | (refine PreD_oF rfl rfl rfl rfl rfl ?hb ?_; (case hb => simp [e1, e4, e63, e64, e65, hlt]; done))
              | (refine RunD_nil ?_; refine hK _ _ ?_; clear hK K)
              | (refine RunD_nil ?_)
              | (refine PreD_nil ?_; refine hK _ _ ?_; clear hK K)
              | (refine WD_skip ?_)
              | (refine WD_exit ?_)
              | (refine WD_ret ?_)
              | (refine WD_true rfl ?hb ?_; (case hb => simp [e1, e4, e63, e64, e65, hlt]; done))
              | (refine WD_false rfl ?hb ?_; (case hb => simp [e1, e4, e63, e64, e65, hlt]; done))
              | (refine hK.1 _ _ ?_; clear hK K)
              | (refine hK.2.1 _ _ ?_; clear hK K)
              | (refine hK.2 _ _ _ ?hne ?_; (case hne => simp; done); clear hK K)
              | (refine hK.2.2 _ _ _ ?hne ?_; (case hne => simp; done); clear hK K))
            have hgood : goodB L A = decide (A.sum ≤ 30) := by
              by_cases hs : A.sum ≤ 30
              · rw [goodB_true ⟨by omega, c2, c3, fun r hr => ?_, fun i hi k hk => hy i (by omega) k hk, fun i hi => (hx i (by omega) hi).2.2, hs⟩, decide_eq_true hs]
                obtain ⟨i, hi, rfl⟩ := List.getElem_of_mem hr
                exact ⟨(hx i hi (by omega)).1, (hx i hi (by omega)).2.1⟩
              · rw [goodB_false fun q => hs q.2.2.2.2.2.2, decide_eq_false hs]
            exact done_ret rfl (by rw [hgood]; simp [k0])
      · have hc := l1All_ok h0 _ A 0 30 hA
        rw [decide_eq_false c3] at hc
        refine RunD_cT rfl rfl rfl rfl rfl rfl ?hb (by simp) (by simp) ?ha (hc) ?_
        (case hb => simp [c2b])
        (case ha => simp [c2b])
        repeat (first
          | (refine WD_block (fun K hK => ?_))
          | (refine WD_seq (fun K hK => ?_))
          | (refine WD_region (fun K hK => ?_))
          | (refine RunD_o rfl rfl rfl rfl rfl (fun X hX => ?_); simp [g0, c2b]; refine hX _ _ ?_; clear hX X)
          | (refine RunD_s rfl rfl rfl rfl (fun X hX => ?_); simp [g0, c2b]; refine hX _ _ ?_; clear hX X)
          | (refine RunD_oT rfl rfl rfl rfl rfl rfl rfl ?hb (fun X hX => ?_); (case hb => simp [g0, c2b]; done); simp [g0, c2b]; refine hX _ _ ?_; clear hX X)
          | (refine RunD_oF rfl rfl rfl rfl rfl ?hb ?_; (case hb => simp [g0, c2b]; done))
          | (refine RunD_oU (c := #[]) rfl rfl rfl rfl rfl ?hb ?_; (case hb => simp [g0, c2b]; rfl))
          | (refine PreD_oU (c := #[]) rfl rfl rfl rfl rfl ?hb ?_; (case hb => simp [g0, c2b]; rfl))
          | (refine PreD_o rfl rfl rfl rfl rfl (fun X hX => ?_); simp [g0, c2b]; refine hX _ _ ?hadd ?_; (case hadd => simp; done); clear hX X)
          | (refine PreD_oT rfl rfl rfl rfl rfl rfl rfl ?hb (fun X hX => ?_); (case hb => simp [g0, c2b]; done); simp [g0, c2b]; refine hX _ _ ?hadd ?_; (case hadd => simp; done); clear hX X)
          | (refine PreD_oF rfl rfl rfl rfl rfl ?hb ?_; (case hb => simp [g0, c2b]; done))
          | (refine RunD_nil ?_; refine hK _ _ ?_; clear hK K)
          | (refine RunD_nil ?_)
          | (refine PreD_nil ?_; refine hK _ _ ?_; clear hK K)
          | (refine WD_skip ?_)
          | (refine WD_exit ?_)
          | (refine WD_ret ?_)
          | (refine WD_true rfl ?hb ?_; (case hb => simp [g0, c2b]; done))
          | (refine WD_false rfl ?hb ?_; (case hb => simp [g0, c2b]; done))
          | (refine hK.1 _ _ ?_; clear hK K)
          | (refine hK.2.1 _ _ ?_; clear hK K)
          | (refine hK.2 _ _ _ ?hne ?_; (case hne => simp; done); clear hK K)
          | (refine hK.2.2 _ _ _ ?hne ?_; (case hne => simp; done); clear hK K))
        exact done_ret rfl (by rw [goodB_false fun q => c3 q.2.2.1]; simp [k0])
    · have c2b : ((L.length : Int) != (A.length : Int)) = true := by simp [c2]
      repeat (first
        | (refine WD_block (fun K hK => ?_))
        | (refine WD_seq (fun K hK => ?_))
        | (refine WD_region (fun K hK => ?_))
        | (refine RunD_o rfl rfl rfl rfl rfl (fun X hX => ?_); simp [g0, c2b]; refine hX _ _ ?_; clear hX X)
        | (refine RunD_s rfl rfl rfl rfl (fun X hX => ?_); simp [g0, c2b]; refine hX _ _ ?_; clear hX X)
        | (refine RunD_oT rfl rfl rfl rfl rfl rfl rfl ?hb (fun X hX => ?_); (case hb => simp [g0, c2b]; done); simp [g0, c2b]; refine hX _ _ ?_; clear hX X)
        | (refine RunD_oF rfl rfl rfl rfl rfl ?hb ?_; (case hb => simp [g0, c2b]; done))
        | (refine RunD_oU (c := #[]) rfl rfl rfl rfl rfl ?hb ?_; (case hb => simp [g0, c2b]; rfl))
        | (refine PreD_oU (c := #[]) rfl rfl rfl rfl rfl ?hb ?_; (case hb => simp [g0, c2b]; rfl))
        | (refine PreD_o rfl rfl rfl rfl rfl (fun X hX => ?_); simp [g0, c2b]; refine hX _ _ ?hadd ?_; (case hadd => simp; done); clear hX X)
        | (refine PreD_oT rfl rfl rfl rfl rfl rfl rfl ?hb (fun X hX => ?_); (case hb => simp [g0, c2b]; done); simp [g0, c2b]; refine hX _ _ ?hadd ?_; (case hadd => simp; done); clear hX X)
        | (refine PreD_oF rfl rfl rfl rfl rfl ?hb ?_; (case hb => simp [g0, c2b]; done))
        | (refine RunD_nil ?_; refine hK _ _ ?_; clear hK K)
        | (refine RunD_nil ?_)
        | (refine PreD_nil ?_; refine hK _ _ ?_; clear hK K)
        | (refine WD_skip ?_)
        | (refine WD_exit ?_)
        | (refine WD_ret ?_)
        | (refine WD_true rfl ?hb ?_; (case hb => simp [g0, c2b]; done))
        | (refine WD_false rfl ?hb ?_; (case hb => simp [g0, c2b]; done))
        | (refine hK.1 _ _ ?_; clear hK K)
        | (refine hK.2.1 _ _ ?_; clear hK K)
        | (refine hK.2 _ _ _ ?hne ?_; (case hne => simp; done); clear hK K)
        | (refine hK.2.2 _ _ _ ?hne ?_; (case hne => simp; done); clear hK K))
      exact done_ret rfl (by rw [goodB_false fun q => c2 q.2.1]; simp [k0])
  · have hc := fun H => l1In_ok H A.length 1 5
    rw [decide_eq_false c1] at hc
    refine RunD_c rfl rfl rfl rfl (by simp) (by simp) ?ha (hc _) ?_
    (case ha => simp)
    repeat (first
      | (refine WD_block (fun K hK => ?_))
      | (refine WD_seq (fun K hK => ?_))
      | (refine WD_region (fun K hK => ?_))
      | (refine RunD_o rfl rfl rfl rfl rfl (fun X hX => ?_); simp; refine hX _ _ ?_; clear hX X)
      | (refine RunD_s rfl rfl rfl rfl (fun X hX => ?_); simp; refine hX _ _ ?_; clear hX X)
      | (refine RunD_oT rfl rfl rfl rfl rfl rfl rfl ?hb (fun X hX => ?_); (case hb => simp; done); simp; refine hX _ _ ?_; clear hX X)
      | (refine RunD_oF rfl rfl rfl rfl rfl ?hb ?_; (case hb => simp; done))
      | (refine RunD_oU (c := #[]) rfl rfl rfl rfl rfl ?hb ?_; (case hb => simp; rfl))
      | (refine PreD_oU (c := #[]) rfl rfl rfl rfl rfl ?hb ?_; (case hb => simp; rfl))
      | (refine PreD_o rfl rfl rfl rfl rfl (fun X hX => ?_); simp; refine hX _ _ ?hadd ?_; (case hadd => simp; done); clear hX X)
      | (refine PreD_oT rfl rfl rfl rfl rfl rfl rfl ?hb (fun X hX => ?_); (case hb => simp; done); simp; refine hX _ _ ?hadd ?_; (case hadd => simp; done); clear hX X)
      | (refine PreD_oF rfl rfl rfl rfl rfl ?hb ?_; (case hb => simp; done))
      | (refine RunD_nil ?_; refine hK _ _ ?_; clear hK K)
      | (refine RunD_nil ?_)
      | (refine PreD_nil ?_; refine hK _ _ ?_; clear hK K)
      | (refine WD_skip ?_)
      | (refine WD_exit ?_)
      | (refine WD_ret ?_)
      | (refine WD_true rfl ?hb ?_; (case hb => simp; done))
      | (refine WD_false rfl ?hb ?_; (case hb => simp; done))
      | (refine hK.1 _ _ ?_; clear hK K)
      | (refine hK.2.1 _ _ ?_; clear hK K)
      | (refine hK.2 _ _ _ ?hne ?_; (case hne => simp; done); clear hK K)
      | (refine hK.2.2 _ _ _ ?hne ?_; (case hne => simp; done); clear hK K))
    exact done_ret rfl (by rw [goodB_false fun q => c1 (by have := q.1; omega)]; simp [k0])

theorem spAreChips_ok (h : Hp) (v : Value) (L : List (List Int)) (A : List Int) (hv : Chips h v L A) : CallOK Try.prog 16 #[v] h (.bool (goodB L A)) h := by
  refine call_P 5 _ [.tmp 2] Try.func16 rfl rfl rfl rfl ?_
  obtain ⟨s, c, s', c', e, hL, hA⟩ := hv.open
  subst e
  repeat (first
    | (refine WD_block (fun K hK => ?_))
    | (refine WD_seq (fun K hK => ?_))
    | (refine WD_region (fun K hK => ?_))
    | (refine RunD_o rfl rfl rfl rfl rfl (fun X hX => ?_); simp; refine hX _ _ ?_; clear hX X)
    | (refine RunD_s rfl rfl rfl rfl (fun X hX => ?_); simp; refine hX _ _ ?_; clear hX X)
    | (refine RunD_oT rfl rfl rfl rfl rfl rfl rfl ?hb (fun X hX => ?_); (case hb => simp; done); simp; refine hX _ _ ?_; clear hX X)
    | (refine RunD_oF rfl rfl rfl rfl rfl ?hb ?_; (case hb => simp; done))
    | (refine RunD_oU (c := #[]) rfl rfl rfl rfl rfl ?hb ?_; (case hb => simp; rfl))
    | (refine PreD_oU (c := #[]) rfl rfl rfl rfl rfl ?hb ?_; (case hb => simp; rfl))
    | (refine PreD_o rfl rfl rfl rfl rfl (fun X hX => ?_); simp; refine hX _ _ ?hadd ?_; (case hadd => simp; done); clear hX X)
    | (refine PreD_oT rfl rfl rfl rfl rfl rfl rfl ?hb (fun X hX => ?_); (case hb => simp; done); simp; refine hX _ _ ?hadd ?_; (case hadd => simp; done); clear hX X)
    | (refine PreD_oF rfl rfl rfl rfl rfl ?hb ?_; (case hb => simp; done))
    | (refine RunD_nil ?_; refine hK _ _ ?_; clear hK K)
    | (refine RunD_nil ?_)
    | (refine PreD_nil ?_; refine hK _ _ ?_; clear hK K)
    | (refine WD_skip ?_)
    | (refine WD_exit ?_)
    | (refine WD_ret ?_)
    | (refine WD_true rfl ?hb ?_; (case hb => simp; done))
    | (refine WD_false rfl ?hb ?_; (case hb => simp; done))
    | (refine hK.1 _ _ ?_; clear hK K)
    | (refine hK.2.1 _ _ ?_; clear hK K)
    | (refine hK.2 _ _ _ ?hne ?_; (case hne => simp; done); clear hK K)
    | (refine hK.2.2 _ _ _ ?hne ?_; (case hne => simp; done); clear hK K))
  refine RunD_c rfl rfl rfl rfl (by simp) (by simp) ?ha (waGood_ok _ _ L A (hv.keep (by repeat (first | exact keep_self _ | exact adds_self _ | assumption | refine keeps_alloc ?_ _ | refine adds_alloc ?_ _ _ _ | (refine keeps_put ?_ ?hle _; (case hle => simp; try omega)) | (refine adds_put ?_ ?hle _ _ _; (case hle => simp; try omega)))))) ?_
  (case ha => simp)
  repeat (first
    | (refine WD_block (fun K hK => ?_))
    | (refine WD_seq (fun K hK => ?_))
    | (refine WD_region (fun K hK => ?_))
    | (refine RunD_o rfl rfl rfl rfl rfl (fun X hX => ?_); simp; refine hX _ _ ?_; clear hX X)
    | (refine RunD_s rfl rfl rfl rfl (fun X hX => ?_); simp; refine hX _ _ ?_; clear hX X)
    | (refine RunD_oT rfl rfl rfl rfl rfl rfl rfl ?hb (fun X hX => ?_); (case hb => simp; done); simp; refine hX _ _ ?_; clear hX X)
    | (refine RunD_oF rfl rfl rfl rfl rfl ?hb ?_; (case hb => simp; done))
    | (refine RunD_oU (c := #[]) rfl rfl rfl rfl rfl ?hb ?_; (case hb => simp; rfl))
    | (refine PreD_oU (c := #[]) rfl rfl rfl rfl rfl ?hb ?_; (case hb => simp; rfl))
    | (refine PreD_o rfl rfl rfl rfl rfl (fun X hX => ?_); simp; refine hX _ _ ?hadd ?_; (case hadd => simp; done); clear hX X)
    | (refine PreD_oT rfl rfl rfl rfl rfl rfl rfl ?hb (fun X hX => ?_); (case hb => simp; done); simp; refine hX _ _ ?hadd ?_; (case hadd => simp; done); clear hX X)
    | (refine PreD_oF rfl rfl rfl rfl rfl ?hb ?_; (case hb => simp; done))
    | (refine RunD_nil ?_; refine hK _ _ ?_; clear hK K)
    | (refine RunD_nil ?_)
    | (refine PreD_nil ?_; refine hK _ _ ?_; clear hK K)
    | (refine WD_skip ?_)
    | (refine WD_exit ?_)
    | (refine WD_ret ?_)
    | (refine WD_true rfl ?hb ?_; (case hb => simp; done))
    | (refine WD_false rfl ?hb ?_; (case hb => simp; done))
    | (refine hK.1 _ _ ?_; clear hK K)
    | (refine hK.2.1 _ _ ?_; clear hK K)
    | (refine hK.2 _ _ _ ?hne ?_; (case hne => simp; done); clear hK K)
    | (refine hK.2.2 _ _ _ ?hne ?_; (case hne => simp; done); clear hK K))
  exact done_ret rfl (by simp)
end Go.Proofs.Ytdadnaliiegceaa
