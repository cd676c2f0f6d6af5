/- The law on ReachedBy. -/
import Derived.Test.YtdadnaliiegceaaB11
namespace Go.Proofs.Ytdadnaliiegceaa
set_option linter.unusedSimpArgs false
set_option linter.unusedVariables false
set_option maxHeartbeats 4000000
open Go Go.Eng
attribute [local irreducible] WD RunD PreD Runs CallOK

theorem lawReachedBy_ok (h : Hp) (v : Value) (L : List (List Int)) (A : List Int) (hv : Chips h v L A) (w : Value) (ms : List Int) (hw : Ints h w ms) : CallOK Try.prog 12 #[v, w] h (.bool true) h := by
  refine call_P 56 _ [.tmp 4] Try.func12 rfl rfl rfl (by first | rfl | simp) ?_
  have hv0 := hv
  have hw0 := hw
  obtain ⟨a, b, rfl, hLL, hAA⟩ := hv
  have lwms := hw.lenD
  have lxms := hw.len
  repeat (first
    | (refine WD_block (fun K hK => ?_))
    | (refine WD_seq (fun K hK => ?_)))
  refine WD_region (fun K hK => ?_)
  repeat (first
    | ((first | refine RunD_o rfl rfl rfl rfl rfl (fun X hX => ?_) | refine RunD_s rfl rfl rfl rfl (fun X hX => ?_) | (refine RunD_oT rfl rfl rfl rfl rfl rfl rfl ?hb (fun X hX => ?_); (case hb => simp (disch := first | omega | (simp; done) | fail) [wrap64c, if_pos, if_neg, lwms] <;> omega))); (try dsimp only); simp (disch := first | omega | (simp; done) | fail) [wrap64c, if_pos, if_neg, lwms]; refine hX _ _ ?_; clear hX X)
    | (refine RunD_oF rfl rfl rfl rfl rfl ?hb ?_; (case hb => simp (disch := first | omega | (simp; done) | fail) [wrap64c, if_pos, if_neg, lwms] <;> omega))
    | ((first | refine RunD_oU (c := #[]) rfl rfl rfl rfl rfl ?hb ?_ | refine PreD_oU (c := #[]) rfl rfl rfl rfl rfl ?hb ?_); (case hb => simp (disch := first | omega | (simp; done) | fail) [wrap64c, if_pos, if_neg, lwms]; rfl)))
  first | refine WD_heap fun h0 q_h0 => ?_ | refine RunD_heap fun h0 q_h0 => ?_ | refine PreD_heap fun h0 q_h0 => ?_ | refine Done_heap fun h0 q_h0 => ?_
  have k0 : Adds h h0 := by rw [q_h0]; exact (by repeat (first | exact keep_self _ | exact adds_self _ | assumption | exact Adds.keeps (by assumption) | refine keeps_alloc ?_ _ | refine adds_alloc ?_ _ _ _ | (refine keeps_put ?_ ?hle _; (case hle => first | omega | (simp; done) | (simp; omega))) | (refine adds_put ?_ ?hle _ _ _; (case hle => first | omega | (simp; done) | (simp; omega)))))
  have K0 := k0.1
  have n0 : h0.next = h.next + 1 := by simp [q_h0]
  have gb0 : h0.get h.next = .cells [a, b] true true 1 := by simp [q_h0]
  by_cases clms : ms.length ≤ 1048576
  case neg =>
    repeat (first
      | (refine WD_block (fun K hK => ?_))
      | (refine WD_seq (fun K hK => ?_))
      | (refine WD_region (fun K hK => ?_))
      | ((first | refine RunD_o rfl rfl rfl rfl rfl (fun X hX => ?_) | refine RunD_s rfl rfl rfl rfl (fun X hX => ?_) | (refine RunD_oT rfl rfl rfl rfl rfl rfl rfl ?hb (fun X hX => ?_); (case hb => simp (disch := first | omega | (simp; done) | fail) [wrap64c, if_pos, if_neg, lwms, gb0, clms] <;> omega))); (try dsimp only); simp (disch := first | omega | (simp; done) | fail) [wrap64c, if_pos, if_neg, lwms, gb0, clms]; refine hX _ _ ?_; clear hX X)
      | (refine RunD_oF rfl rfl rfl rfl rfl ?hb ?_; (case hb => simp (disch := first | omega | (simp; done) | fail) [wrap64c, if_pos, if_neg, lwms, gb0, clms] <;> omega))
      | ((first | refine RunD_oU (c := #[]) rfl rfl rfl rfl rfl ?hb ?_ | refine PreD_oU (c := #[]) rfl rfl rfl rfl rfl ?hb ?_); (case hb => simp (disch := first | omega | (simp; done) | fail) [wrap64c, if_pos, if_neg, lwms, gb0, clms]; rfl))
      | ((first | refine PreD_o rfl rfl rfl rfl rfl (fun X hX => ?_) | (refine PreD_oT rfl rfl rfl rfl rfl rfl rfl ?hb (fun X hX => ?_); (case hb => simp (disch := first | omega | (simp; done) | fail) [wrap64c, if_pos, if_neg, lwms, gb0, clms] <;> omega))); (try dsimp only); simp (disch := first | omega | (simp; done) | fail) [wrap64c, if_pos, if_neg, lwms, gb0, clms]; refine hX _ _ ?hadd ?_; (case hadd => simp; done); clear hX X)
      | (refine PreD_oF rfl rfl rfl rfl rfl ?hb ?_; (case hb => simp (disch := first | omega | (simp; done) | fail) [wrap64c, if_pos, if_neg, lwms, gb0, clms] <;> omega))
      | (refine RunD_nil ?_; refine hK _ _ ?_; clear hK K)
      | (refine RunD_nil ?_)
      | (refine PreD_nil ?_; refine hK _ _ ?_; clear hK K)
      | (refine WD_skip ?_)
      | (refine WD_exit ?_)
      | (refine WD_ret ?_)
      | (refine WD_true rfl ?hb ?_; (case hb => simp (disch := first | omega | (simp; done) | fail) [wrap64c, if_pos, if_neg, lwms, gb0, clms] <;> omega))
      | (refine WD_false rfl ?hb ?_; (case hb => simp (disch := first | omega | (simp; done) | fail) [wrap64c, if_pos, if_neg, lwms, gb0, clms] <;> omega))
      | (refine hK.1 _ _ ?_; clear hK K)
      | (refine hK.2.1 _ _ ?_; clear hK K)
      | (refine hK.2 _ _ _ ?hne ?_; (case hne => simp; done); clear hK K)
      | (refine hK.2.2 _ _ _ ?hne ?_; (case hne => simp; done); clear hK K))
    exact done_ret rfl (by simp [K0])
  have l1ms : ms.length < 2 ^ 40 := by omega
  repeat (first
    | (refine WD_block (fun K hK => ?_))
    | (refine WD_seq (fun K hK => ?_))
    | (refine WD_region (fun K hK => ?_))
    | ((first | refine RunD_o rfl rfl rfl rfl rfl (fun X hX => ?_) | refine RunD_s rfl rfl rfl rfl (fun X hX => ?_) | (refine RunD_oT rfl rfl rfl rfl rfl rfl rfl ?hb (fun X hX => ?_); (case hb => simp (disch := first | omega | (simp; done) | fail) [wrap64c, if_pos, if_neg, lwms, gb0, clms] <;> omega))); (try dsimp only); simp (disch := first | omega | (simp; done) | fail) [wrap64c, if_pos, if_neg, lwms, gb0, clms]; refine hX _ _ ?_; clear hX X)
    | (refine RunD_oF rfl rfl rfl rfl rfl ?hb ?_; (case hb => simp (disch := first | omega | (simp; done) | fail) [wrap64c, if_pos, if_neg, lwms, gb0, clms] <;> omega))
    | ((first | refine RunD_oU (c := #[]) rfl rfl rfl rfl rfl ?hb ?_ | refine PreD_oU (c := #[]) rfl rfl rfl rfl rfl ?hb ?_); (case hb => simp (disch := first | omega | (simp; done) | fail) [wrap64c, if_pos, if_neg, lwms, gb0, clms]; rfl))
    | ((first | refine PreD_o rfl rfl rfl rfl rfl (fun X hX => ?_) | (refine PreD_oT rfl rfl rfl rfl rfl rfl rfl ?hb (fun X hX => ?_); (case hb => simp (disch := first | omega | (simp; done) | fail) [wrap64c, if_pos, if_neg, lwms, gb0, clms] <;> omega))); (try dsimp only); simp (disch := first | omega | (simp; done) | fail) [wrap64c, if_pos, if_neg, lwms, gb0, clms]; refine hX _ _ ?hadd ?_; (case hadd => simp; done); clear hX X)
    | (refine PreD_oF rfl rfl rfl rfl rfl ?hb ?_; (case hb => simp (disch := first | omega | (simp; done) | fail) [wrap64c, if_pos, if_neg, lwms, gb0, clms] <;> omega))
    | (refine RunD_nil ?_; refine hK _ _ ?_; clear hK K)
    | (refine RunD_nil ?_)
    | (refine PreD_nil ?_; refine hK _ _ ?_; clear hK K)
    | (refine WD_skip ?_)
    | (refine WD_exit ?_)
    | (refine WD_ret ?_)
    | (refine WD_true rfl ?hb ?_; (case hb => simp (disch := first | omega | (simp; done) | fail) [wrap64c, if_pos, if_neg, lwms, gb0, clms] <;> omega))
    | (refine WD_false rfl ?hb ?_; (case hb => simp (disch := first | omega | (simp; done) | fail) [wrap64c, if_pos, if_neg, lwms, gb0, clms] <;> omega))
    | (refine hK.1 _ _ ?_; clear hK K)
    | (refine hK.2.1 _ _ ?_; clear hK K)
    | (refine hK.2 _ _ _ ?hne ?_; (case hne => simp; done); clear hK K)
    | (refine hK.2.2 _ _ _ ?hne ?_; (case hne => simp; done); clear hK K))
  refine RunD_c rfl rfl rfl rfl (by simp) (by simp) ?ha (szChips_ok h0 _ L A (1048576) (hv0.keep K0) (by omega) (by omega)) ?_
  (case ha => simp (disch := first | omega | (simp; done) | fail) [wrap64c, if_pos, if_neg, lwms, gb0, clms])
  by_cases cz0 : szC (1048576) L A < 0
  case pos =>
    repeat (first
      | (refine WD_block (fun K hK => ?_))
      | (refine WD_seq (fun K hK => ?_))
      | (refine WD_region (fun K hK => ?_))
      | ((first | refine RunD_o rfl rfl rfl rfl rfl (fun X hX => ?_) | refine RunD_s rfl rfl rfl rfl (fun X hX => ?_) | (refine RunD_oT rfl rfl rfl rfl rfl rfl rfl ?hb (fun X hX => ?_); (case hb => simp (disch := first | omega | (simp; done) | fail) [wrap64c, if_pos, if_neg, lwms, gb0, clms, cz0] <;> omega))); (try dsimp only); simp (disch := first | omega | (simp; done) | fail) [wrap64c, if_pos, if_neg, lwms, gb0, clms, cz0]; refine hX _ _ ?_; clear hX X)
      | (refine RunD_oF rfl rfl rfl rfl rfl ?hb ?_; (case hb => simp (disch := first | omega | (simp; done) | fail) [wrap64c, if_pos, if_neg, lwms, gb0, clms, cz0] <;> omega))
      | ((first | refine RunD_oU (c := #[]) rfl rfl rfl rfl rfl ?hb ?_ | refine PreD_oU (c := #[]) rfl rfl rfl rfl rfl ?hb ?_); (case hb => simp (disch := first | omega | (simp; done) | fail) [wrap64c, if_pos, if_neg, lwms, gb0, clms, cz0]; rfl))
      | ((first | refine PreD_o rfl rfl rfl rfl rfl (fun X hX => ?_) | (refine PreD_oT rfl rfl rfl rfl rfl rfl rfl ?hb (fun X hX => ?_); (case hb => simp (disch := first | omega | (simp; done) | fail) [wrap64c, if_pos, if_neg, lwms, gb0, clms, cz0] <;> omega))); (try dsimp only); simp (disch := first | omega | (simp; done) | fail) [wrap64c, if_pos, if_neg, lwms, gb0, clms, cz0]; refine hX _ _ ?hadd ?_; (case hadd => simp; done); clear hX X)
      | (refine PreD_oF rfl rfl rfl rfl rfl ?hb ?_; (case hb => simp (disch := first | omega | (simp; done) | fail) [wrap64c, if_pos, if_neg, lwms, gb0, clms, cz0] <;> omega))
      | (refine RunD_nil ?_; refine hK _ _ ?_; clear hK K)
      | (refine RunD_nil ?_)
      | (refine PreD_nil ?_; refine hK _ _ ?_; clear hK K)
      | (refine WD_skip ?_)
      | (refine WD_exit ?_)
      | (refine WD_ret ?_)
      | (refine WD_true rfl ?hb ?_; (case hb => simp (disch := first | omega | (simp; done) | fail) [wrap64c, if_pos, if_neg, lwms, gb0, clms, cz0] <;> omega))
      | (refine WD_false rfl ?hb ?_; (case hb => simp (disch := first | omega | (simp; done) | fail) [wrap64c, if_pos, if_neg, lwms, gb0, clms, cz0] <;> omega))
      | (refine hK.1 _ _ ?_; clear hK K)
      | (refine hK.2.1 _ _ ?_; clear hK K)
      | (refine hK.2 _ _ _ ?hne ?_; (case hne => simp; done); clear hK K)
      | (refine hK.2.2 _ _ _ ?hne ?_; (case hne => simp; done); clear hK K))
    exact done_ret rfl (by simp [K0])
  have lz0 := szC_len (by omega) cz0
  have l1L : L.length < 2 ^ 40 := by omega
  have l2L : ∀ x ∈ L, x.length < 2 ^ 40 := fun x hx => by have := mem_le_tot hx; omega
  have l3L : A.length < 2 ^ 40 := by omega
  repeat (first
    | (refine WD_block (fun K hK => ?_))
    | (refine WD_seq (fun K hK => ?_))
    | (refine WD_region (fun K hK => ?_))
    | ((first | refine RunD_o rfl rfl rfl rfl rfl (fun X hX => ?_) | refine RunD_s rfl rfl rfl rfl (fun X hX => ?_) | (refine RunD_oT rfl rfl rfl rfl rfl rfl rfl ?hb (fun X hX => ?_); (case hb => simp (disch := first | omega | (simp; done) | fail) [wrap64c, if_pos, if_neg, lwms, gb0, clms, cz0] <;> omega))); (try dsimp only); simp (disch := first | omega | (simp; done) | fail) [wrap64c, if_pos, if_neg, lwms, gb0, clms, cz0]; refine hX _ _ ?_; clear hX X)
    | (refine RunD_oF rfl rfl rfl rfl rfl ?hb ?_; (case hb => simp (disch := first | omega | (simp; done) | fail) [wrap64c, if_pos, if_neg, lwms, gb0, clms, cz0] <;> omega))
    | ((first | refine RunD_oU (c := #[]) rfl rfl rfl rfl rfl ?hb ?_ | refine PreD_oU (c := #[]) rfl rfl rfl rfl rfl ?hb ?_); (case hb => simp (disch := first | omega | (simp; done) | fail) [wrap64c, if_pos, if_neg, lwms, gb0, clms, cz0]; rfl))
    | ((first | refine PreD_o rfl rfl rfl rfl rfl (fun X hX => ?_) | (refine PreD_oT rfl rfl rfl rfl rfl rfl rfl ?hb (fun X hX => ?_); (case hb => simp (disch := first | omega | (simp; done) | fail) [wrap64c, if_pos, if_neg, lwms, gb0, clms, cz0] <;> omega))); (try dsimp only); simp (disch := first | omega | (simp; done) | fail) [wrap64c, if_pos, if_neg, lwms, gb0, clms, cz0]; refine hX _ _ ?hadd ?_; (case hadd => simp; done); clear hX X)
    | (refine PreD_oF rfl rfl rfl rfl rfl ?hb ?_; (case hb => simp (disch := first | omega | (simp; done) | fail) [wrap64c, if_pos, if_neg, lwms, gb0, clms, cz0] <;> omega))
    | (refine RunD_nil ?_; refine hK _ _ ?_; clear hK K)
    | (refine RunD_nil ?_)
    | (refine PreD_nil ?_; refine hK _ _ ?_; clear hK K)
    | (refine WD_skip ?_)
    | (refine WD_exit ?_)
    | (refine WD_ret ?_)
    | (refine WD_true rfl ?hb ?_; (case hb => simp (disch := first | omega | (simp; done) | fail) [wrap64c, if_pos, if_neg, lwms, gb0, clms, cz0] <;> omega))
    | (refine WD_false rfl ?hb ?_; (case hb => simp (disch := first | omega | (simp; done) | fail) [wrap64c, if_pos, if_neg, lwms, gb0, clms, cz0] <;> omega))
    | (refine hK.1 _ _ ?_; clear hK K)
    | (refine hK.2.1 _ _ ?_; clear hK K)
    | (refine hK.2 _ _ _ ?hne ?_; (case hne => simp; done); clear hK K)
    | (refine hK.2.2 _ _ _ ?hne ?_; (case hne => simp; done); clear hK K))
  obtain ⟨ts0, h1, hcs0, has0, his0⟩ := toChips_ok h0 _ L A (hv0.keep K0) l1L l2L l3L
  refine RunD_c rfl rfl rfl rfl (by simp) (by simp) ?ha (hcs0) ?_
  (case ha => simp (disch := first | omega | (simp; done) | fail) [wrap64c, if_pos, if_neg, lwms, gb0, clms, cz0])
  have n1 := has0.1.1
  have K1 := K0.trans has0.1
  have gb0 : h1.get h.next = .cells [a, b] true true 1 := by rw [has0.1.2 _ (by omega)]; exact gb0
  repeat (first
    | (refine WD_block (fun K hK => ?_))
    | (refine WD_seq (fun K hK => ?_))
    | (refine WD_region (fun K hK => ?_))
    | ((first | refine RunD_o rfl rfl rfl rfl rfl (fun X hX => ?_) | refine RunD_s rfl rfl rfl rfl (fun X hX => ?_) | (refine RunD_oT rfl rfl rfl rfl rfl rfl rfl ?hb (fun X hX => ?_); (case hb => simp (disch := first | omega | (simp; done) | fail) [wrap64c, if_pos, if_neg, lwms, gb0, clms, cz0] <;> omega))); (try dsimp only); simp (disch := first | omega | (simp; done) | fail) [wrap64c, if_pos, if_neg, lwms, gb0, clms, cz0]; refine hX _ _ ?_; clear hX X)
    | (refine RunD_oF rfl rfl rfl rfl rfl ?hb ?_; (case hb => simp (disch := first | omega | (simp; done) | fail) [wrap64c, if_pos, if_neg, lwms, gb0, clms, cz0] <;> omega))
    | ((first | refine RunD_oU (c := #[]) rfl rfl rfl rfl rfl ?hb ?_ | refine PreD_oU (c := #[]) rfl rfl rfl rfl rfl ?hb ?_); (case hb => simp (disch := first | omega | (simp; done) | fail) [wrap64c, if_pos, if_neg, lwms, gb0, clms, cz0]; rfl))
    | ((first | refine PreD_o rfl rfl rfl rfl rfl (fun X hX => ?_) | (refine PreD_oT rfl rfl rfl rfl rfl rfl rfl ?hb (fun X hX => ?_); (case hb => simp (disch := first | omega | (simp; done) | fail) [wrap64c, if_pos, if_neg, lwms, gb0, clms, cz0] <;> omega))); (try dsimp only); simp (disch := first | omega | (simp; done) | fail) [wrap64c, if_pos, if_neg, lwms, gb0, clms, cz0]; refine hX _ _ ?hadd ?_; (case hadd => simp; done); clear hX X)
    | (refine PreD_oF rfl rfl rfl rfl rfl ?hb ?_; (case hb => simp (disch := first | omega | (simp; done) | fail) [wrap64c, if_pos, if_neg, lwms, gb0, clms, cz0] <;> omega))
    | (refine RunD_nil ?_; refine hK _ _ ?_; clear hK K)
    | (refine RunD_nil ?_)
    | (refine PreD_nil ?_; refine hK _ _ ?_; clear hK K)
    | (refine WD_skip ?_)
    | (refine WD_exit ?_)
    | (refine WD_ret ?_)
    | (refine WD_true rfl ?hb ?_; (case hb => simp (disch := first | omega | (simp; done) | fail) [wrap64c, if_pos, if_neg, lwms, gb0, clms, cz0] <;> omega))
    | (refine WD_false rfl ?hb ?_; (case hb => simp (disch := first | omega | (simp; done) | fail) [wrap64c, if_pos, if_neg, lwms, gb0, clms, cz0] <;> omega))
    | (refine hK.1 _ _ ?_; clear hK K)
    | (refine hK.2.1 _ _ ?_; clear hK K)
    | (refine hK.2 _ _ _ ?hne ?_; (case hne => simp; done); clear hK K)
    | (refine hK.2.2 _ _ _ ?hne ?_; (case hne => simp; done); clear hK K))
  obtain ⟨ts1, h2, hcs1, has1, his1⟩ := toIntS_ok h1 w ms (hw0.keep K1) l1ms
  refine RunD_c rfl rfl rfl rfl (by simp) (by simp) ?ha (hcs1) ?_
  (case ha => simp (disch := first | omega | (simp; done) | fail) [wrap64c, if_pos, if_neg, lwms, gb0, clms, cz0])
  have n2 := has1.1.1
  have K2 := K1.trans has1.1
  have gb0 : h2.get h.next = .cells [a, b] true true 1 := by rw [has1.1.2 _ (by omega)]; exact gb0
  have his0 := his0.keep has1.1
  repeat (first
    | (refine WD_block (fun K hK => ?_))
    | (refine WD_seq (fun K hK => ?_))
    | (refine WD_region (fun K hK => ?_))
    | ((first | refine RunD_o rfl rfl rfl rfl rfl (fun X hX => ?_) | refine RunD_s rfl rfl rfl rfl (fun X hX => ?_) | (refine RunD_oT rfl rfl rfl rfl rfl rfl rfl ?hb (fun X hX => ?_); (case hb => simp (disch := first | omega | (simp; done) | fail) [wrap64c, if_pos, if_neg, lwms, gb0, clms, cz0] <;> omega))); (try dsimp only); simp (disch := first | omega | (simp; done) | fail) [wrap64c, if_pos, if_neg, lwms, gb0, clms, cz0]; refine hX _ _ ?_; clear hX X)
    | (refine RunD_oF rfl rfl rfl rfl rfl ?hb ?_; (case hb => simp (disch := first | omega | (simp; done) | fail) [wrap64c, if_pos, if_neg, lwms, gb0, clms, cz0] <;> omega))
    | ((first | refine RunD_oU (c := #[]) rfl rfl rfl rfl rfl ?hb ?_ | refine PreD_oU (c := #[]) rfl rfl rfl rfl rfl ?hb ?_); (case hb => simp (disch := first | omega | (simp; done) | fail) [wrap64c, if_pos, if_neg, lwms, gb0, clms, cz0]; rfl))
    | ((first | refine PreD_o rfl rfl rfl rfl rfl (fun X hX => ?_) | (refine PreD_oT rfl rfl rfl rfl rfl rfl rfl ?hb (fun X hX => ?_); (case hb => simp (disch := first | omega | (simp; done) | fail) [wrap64c, if_pos, if_neg, lwms, gb0, clms, cz0] <;> omega))); (try dsimp only); simp (disch := first | omega | (simp; done) | fail) [wrap64c, if_pos, if_neg, lwms, gb0, clms, cz0]; refine hX _ _ ?hadd ?_; (case hadd => simp; done); clear hX X)
    | (refine PreD_oF rfl rfl rfl rfl rfl ?hb ?_; (case hb => simp (disch := first | omega | (simp; done) | fail) [wrap64c, if_pos, if_neg, lwms, gb0, clms, cz0] <;> omega))
    | (refine RunD_nil ?_; refine hK _ _ ?_; clear hK K)
    | (refine RunD_nil ?_)
    | (refine PreD_nil ?_; refine hK _ _ ?_; clear hK K)
    | (refine WD_skip ?_)
    | (refine WD_exit ?_)
    | (refine WD_ret ?_)
    | (refine WD_true rfl ?hb ?_; (case hb => simp (disch := first | omega | (simp; done) | fail) [wrap64c, if_pos, if_neg, lwms, gb0, clms, cz0] <;> omega))
    | (refine WD_false rfl ?hb ?_; (case hb => simp (disch := first | omega | (simp; done) | fail) [wrap64c, if_pos, if_neg, lwms, gb0, clms, cz0] <;> omega))
    | (refine hK.1 _ _ ?_; clear hK K)
    | (refine hK.2.1 _ _ ?_; clear hK K)
    | (refine hK.2 _ _ _ ?hne ?_; (case hne => simp; done); clear hK K)
    | (refine hK.2.2 _ _ _ ?hne ?_; (case hne => simp; done); clear hK K))
  refine RunD_c rfl rfl rfl rfl (by simp) (by simp) ?ha (spReachedBy_ok h2 _ _ L A ms his0.chips his1.ints) ?_
  (case ha => simp (disch := first | omega | (simp; done) | fail) [wrap64c, if_pos, if_neg, lwms, gb0, clms, cz0])
  repeat (first
    | (refine WD_block (fun K hK => ?_))
    | (refine WD_seq (fun K hK => ?_))
    | (refine WD_region (fun K hK => ?_))
    | ((first | refine RunD_o rfl rfl rfl rfl rfl (fun X hX => ?_) | refine RunD_s rfl rfl rfl rfl (fun X hX => ?_) | (refine RunD_oT rfl rfl rfl rfl rfl rfl rfl ?hb (fun X hX => ?_); (case hb => simp (disch := first | omega | (simp; done) | fail) [wrap64c, if_pos, if_neg, lwms, gb0, clms, cz0] <;> omega))); (try dsimp only); simp (disch := first | omega | (simp; done) | fail) [wrap64c, if_pos, if_neg, lwms, gb0, clms, cz0]; refine hX _ _ ?_; clear hX X)
    | (refine RunD_oF rfl rfl rfl rfl rfl ?hb ?_; (case hb => simp (disch := first | omega | (simp; done) | fail) [wrap64c, if_pos, if_neg, lwms, gb0, clms, cz0] <;> omega))
    | ((first | refine RunD_oU (c := #[]) rfl rfl rfl rfl rfl ?hb ?_ | refine PreD_oU (c := #[]) rfl rfl rfl rfl rfl ?hb ?_); (case hb => simp (disch := first | omega | (simp; done) | fail) [wrap64c, if_pos, if_neg, lwms, gb0, clms, cz0]; rfl))
    | ((first | refine PreD_o rfl rfl rfl rfl rfl (fun X hX => ?_) | (refine PreD_oT rfl rfl rfl rfl rfl rfl rfl ?hb (fun X hX => ?_); (case hb => simp (disch := first | omega | (simp; done) | fail) [wrap64c, if_pos, if_neg, lwms, gb0, clms, cz0] <;> omega))); (try dsimp only); simp (disch := first | omega | (simp; done) | fail) [wrap64c, if_pos, if_neg, lwms, gb0, clms, cz0]; refine hX _ _ ?hadd ?_; (case hadd => simp; done); clear hX X)
    | (refine PreD_oF rfl rfl rfl rfl rfl ?hb ?_; (case hb => simp (disch := first | omega | (simp; done) | fail) [wrap64c, if_pos, if_neg, lwms, gb0, clms, cz0] <;> omega))
    | (refine RunD_nil ?_; refine hK _ _ ?_; clear hK K)
    | (refine RunD_nil ?_)
    | (refine PreD_nil ?_; refine hK _ _ ?_; clear hK K)
    | (refine WD_skip ?_)
    | (refine WD_exit ?_)
    | (refine WD_ret ?_)
    | (refine WD_true rfl ?hb ?_; (case hb => simp (disch := first | omega | (simp; done) | fail) [wrap64c, if_pos, if_neg, lwms, gb0, clms, cz0] <;> omega))
    | (refine WD_false rfl ?hb ?_; (case hb => simp (disch := first | omega | (simp; done) | fail) [wrap64c, if_pos, if_neg, lwms, gb0, clms, cz0] <;> omega))
    | (refine hK.1 _ _ ?_; clear hK K)
    | (refine hK.2.1 _ _ ?_; clear hK K)
    | (refine hK.2 _ _ _ ?hne ?_; (case hne => simp; done); clear hK K)
    | (refine hK.2.2 _ _ _ ?hne ?_; (case hne => simp; done); clear hK K))
  obtain ⟨tx0, h3, hcx0, hax0, hix0⟩ := toChips_ok h2 _ L A (hv0.keep K2) l1L l2L l3L
  have hix0' := hix0
  obtain ⟨px0, qx0, Sx0, Tx0, rfl, hpx0, hqx0, s1x0, s2x0, s3x0⟩ := hix0'
  have ntpx0 := hpx0.nt
  have cspx0 := hpx0.cs
  have ntqx0 := hqx0.nt
  have csqx0 := hqx0.cs
  refine RunD_c rfl rfl rfl rfl (by simp) (by simp) ?ha (hcx0) ?_
  (case ha => simp (disch := first | omega | (simp; done) | fail) [wrap64c, if_pos, if_neg, lwms, gb0, clms, cz0, ntpx0, cspx0, ntqx0, csqx0])
  have n3 := hax0.1.1
  have K3 := K2.trans hax0.1
  have gb0 : h3.get h.next = .cells [a, b] true true 1 := by rw [hax0.1.2 _ (by omega)]; exact gb0
  have his0 := his0.keep hax0.1
  have his1 := his1.keep hax0.1
  repeat (first
    | (refine WD_block (fun K hK => ?_))
    | (refine WD_seq (fun K hK => ?_))
    | (refine WD_region (fun K hK => ?_))
    | ((first | refine RunD_o rfl rfl rfl rfl rfl (fun X hX => ?_) | refine RunD_s rfl rfl rfl rfl (fun X hX => ?_) | (refine RunD_oT rfl rfl rfl rfl rfl rfl rfl ?hb (fun X hX => ?_); (case hb => simp (disch := first | omega | (simp; done) | fail) [wrap64c, if_pos, if_neg, lwms, gb0, clms, cz0, ntpx0, cspx0, ntqx0, csqx0, putCells] <;> omega))); (try dsimp only); simp (disch := first | omega | (simp; done) | fail) [wrap64c, if_pos, if_neg, lwms, gb0, clms, cz0, ntpx0, cspx0, ntqx0, csqx0, putCells]; refine hX _ _ ?_; clear hX X)
    | (refine RunD_oF rfl rfl rfl rfl rfl ?hb ?_; (case hb => simp (disch := first | omega | (simp; done) | fail) [wrap64c, if_pos, if_neg, lwms, gb0, clms, cz0, ntpx0, cspx0, ntqx0, csqx0, putCells] <;> omega))
    | ((first | refine RunD_oU (c := #[]) rfl rfl rfl rfl rfl ?hb ?_ | refine PreD_oU (c := #[]) rfl rfl rfl rfl rfl ?hb ?_); (case hb => simp (disch := first | omega | (simp; done) | fail) [wrap64c, if_pos, if_neg, lwms, gb0, clms, cz0, ntpx0, cspx0, ntqx0, csqx0, putCells]; rfl))
    | ((first | refine PreD_o rfl rfl rfl rfl rfl (fun X hX => ?_) | (refine PreD_oT rfl rfl rfl rfl rfl rfl rfl ?hb (fun X hX => ?_); (case hb => simp (disch := first | omega | (simp; done) | fail) [wrap64c, if_pos, if_neg, lwms, gb0, clms, cz0, ntpx0, cspx0, ntqx0, csqx0, putCells] <;> omega))); (try dsimp only); simp (disch := first | omega | (simp; done) | fail) [wrap64c, if_pos, if_neg, lwms, gb0, clms, cz0, ntpx0, cspx0, ntqx0, csqx0, putCells]; refine hX _ _ ?hadd ?_; (case hadd => simp; done); clear hX X)
    | (refine PreD_oF rfl rfl rfl rfl rfl ?hb ?_; (case hb => simp (disch := first | omega | (simp; done) | fail) [wrap64c, if_pos, if_neg, lwms, gb0, clms, cz0, ntpx0, cspx0, ntqx0, csqx0, putCells] <;> omega))
    | (refine RunD_nil ?_; refine hK _ _ ?_; clear hK K)
    | (refine RunD_nil ?_)
    | (refine PreD_nil ?_; refine hK _ _ ?_; clear hK K)
    | (refine WD_skip ?_)
    | (refine WD_exit ?_)
    | (refine WD_ret ?_)
    | (refine WD_true rfl ?hb ?_; (case hb => simp (disch := first | omega | (simp; done) | fail) [wrap64c, if_pos, if_neg, lwms, gb0, clms, cz0, ntpx0, cspx0, ntqx0, csqx0, putCells] <;> omega))
    | (refine WD_false rfl ?hb ?_; (case hb => simp (disch := first | omega | (simp; done) | fail) [wrap64c, if_pos, if_neg, lwms, gb0, clms, cz0, ntpx0, cspx0, ntqx0, csqx0, putCells] <;> omega))
    | (refine hK.1 _ _ ?_; clear hK K)
    | (refine hK.2.1 _ _ ?_; clear hK K)
    | (refine hK.2 _ _ _ ?hne ?_; (case hne => simp; done); clear hK K)
    | (refine hK.2.2 _ _ _ ?hne ?_; (case hne => simp; done); clear hK K))
  first | refine WD_heap fun h4 q_h4 => ?_ | refine RunD_heap fun h4 q_h4 => ?_ | refine PreD_heap fun h4 q_h4 => ?_ | refine Done_heap fun h4 q_h4 => ?_
  have hbx0 : Adds h3 h4 := by rw [q_h4]; exact (by repeat (first | exact keep_self _ | exact adds_self _ | assumption | exact Adds.keeps (by assumption) | refine keeps_alloc ?_ _ | refine adds_alloc ?_ _ _ _ | (refine keeps_put ?_ ?hle _; (case hle => first | omega | (simp; done) | (simp; omega))) | (refine adds_put ?_ ?hle _ _ _; (case hle => first | omega | (simp; done) | (simp; omega)))))
  have n4 := hbx0.1.1
  have K4 := K3.trans hbx0.1
  have gb0 : h4.get h.next = .cells [a, b] true true 1 := by rw [hbx0.1.2 _ (by omega)]; exact gb0
  have his0 := his0.keep hbx0.1
  have his1 := his1.keep hbx0.1
  have hix0 := hix0.keep hbx0.1
  have m4 : h4.next = h3.next + 1 := by simp [q_h4]
  have gx0 : h4.get h3.next = .cells [px0, qx0] true true 1 := by simp [q_h4]
  repeat (first
    | (refine WD_block (fun K hK => ?_))
    | (refine WD_seq (fun K hK => ?_))
    | (refine WD_region (fun K hK => ?_))
    | ((first | refine RunD_o rfl rfl rfl rfl rfl (fun X hX => ?_) | refine RunD_s rfl rfl rfl rfl (fun X hX => ?_) | (refine RunD_oT rfl rfl rfl rfl rfl rfl rfl ?hb (fun X hX => ?_); (case hb => simp (disch := first | omega | (simp; done) | fail) [wrap64c, if_pos, if_neg, lwms, gb0, clms, cz0, ntpx0, cspx0, ntqx0, csqx0, gx0] <;> omega))); (try dsimp only); simp (disch := first | omega | (simp; done) | fail) [wrap64c, if_pos, if_neg, lwms, gb0, clms, cz0, ntpx0, cspx0, ntqx0, csqx0, gx0]; refine hX _ _ ?_; clear hX X)
    | (refine RunD_oF rfl rfl rfl rfl rfl ?hb ?_; (case hb => simp (disch := first | omega | (simp; done) | fail) [wrap64c, if_pos, if_neg, lwms, gb0, clms, cz0, ntpx0, cspx0, ntqx0, csqx0, gx0] <;> omega))
    | ((first | refine RunD_oU (c := #[]) rfl rfl rfl rfl rfl ?hb ?_ | refine PreD_oU (c := #[]) rfl rfl rfl rfl rfl ?hb ?_); (case hb => simp (disch := first | omega | (simp; done) | fail) [wrap64c, if_pos, if_neg, lwms, gb0, clms, cz0, ntpx0, cspx0, ntqx0, csqx0, gx0]; rfl))
    | ((first | refine PreD_o rfl rfl rfl rfl rfl (fun X hX => ?_) | (refine PreD_oT rfl rfl rfl rfl rfl rfl rfl ?hb (fun X hX => ?_); (case hb => simp (disch := first | omega | (simp; done) | fail) [wrap64c, if_pos, if_neg, lwms, gb0, clms, cz0, ntpx0, cspx0, ntqx0, csqx0, gx0] <;> omega))); (try dsimp only); simp (disch := first | omega | (simp; done) | fail) [wrap64c, if_pos, if_neg, lwms, gb0, clms, cz0, ntpx0, cspx0, ntqx0, csqx0, gx0]; refine hX _ _ ?hadd ?_; (case hadd => simp; done); clear hX X)
    | (refine PreD_oF rfl rfl rfl rfl rfl ?hb ?_; (case hb => simp (disch := first | omega | (simp; done) | fail) [wrap64c, if_pos, if_neg, lwms, gb0, clms, cz0, ntpx0, cspx0, ntqx0, csqx0, gx0] <;> omega))
    | (refine RunD_nil ?_; refine hK _ _ ?_; clear hK K)
    | (refine RunD_nil ?_)
    | (refine PreD_nil ?_; refine hK _ _ ?_; clear hK K)
    | (refine WD_skip ?_)
    | (refine WD_exit ?_)
    | (refine WD_ret ?_)
    | (refine WD_true rfl ?hb ?_; (case hb => simp (disch := first | omega | (simp; done) | fail) [wrap64c, if_pos, if_neg, lwms, gb0, clms, cz0, ntpx0, cspx0, ntqx0, csqx0, gx0] <;> omega))
    | (refine WD_false rfl ?hb ?_; (case hb => simp (disch := first | omega | (simp; done) | fail) [wrap64c, if_pos, if_neg, lwms, gb0, clms, cz0, ntpx0, cspx0, ntqx0, csqx0, gx0] <;> omega))
    | (refine hK.1 _ _ ?_; clear hK K)
    | (refine hK.2.1 _ _ ?_; clear hK K)
    | (refine hK.2 _ _ _ ?hne ?_; (case hne => simp; done); clear hK K)
    | (refine hK.2.2 _ _ _ ?hne ?_; (case hne => simp; done); clear hK K))
  obtain ⟨tx1, h5, hcx1, hax1, hix1⟩ := toIntS_ok h4 w ms (hw0.keep K4) l1ms
  refine RunD_c rfl rfl rfl rfl (by simp) (by simp) ?ha (hcx1) ?_
  (case ha => simp (disch := first | omega | (simp; done) | fail) [wrap64c, if_pos, if_neg, lwms, gb0, clms, cz0, ntpx0, cspx0, ntqx0, csqx0, gx0])
  have n5 := hax1.1.1
  have K5 := K4.trans hax1.1
  have gb0 : h5.get h.next = .cells [a, b] true true 1 := by rw [hax1.1.2 _ (by omega)]; exact gb0
  have gx0 : h5.get h3.next = .cells [px0, qx0] true true 1 := by rw [hax1.1.2 _ (by omega)]; exact gx0
  have his0 := his0.keep hax1.1
  have his1 := his1.keep hax1.1
  have hix0 := hix0.keep hax1.1
  repeat (first
    | (refine WD_block (fun K hK => ?_))
    | (refine WD_seq (fun K hK => ?_))
    | (refine WD_region (fun K hK => ?_))
    | ((first | refine RunD_o rfl rfl rfl rfl rfl (fun X hX => ?_) | refine RunD_s rfl rfl rfl rfl (fun X hX => ?_) | (refine RunD_oT rfl rfl rfl rfl rfl rfl rfl ?hb (fun X hX => ?_); (case hb => simp (disch := first | omega | (simp; done) | fail) [wrap64c, if_pos, if_neg, lwms, gb0, clms, cz0, ntpx0, cspx0, ntqx0, csqx0, gx0] <;> omega))); (try dsimp only); simp (disch := first | omega | (simp; done) | fail) [wrap64c, if_pos, if_neg, lwms, gb0, clms, cz0, ntpx0, cspx0, ntqx0, csqx0, gx0]; refine hX _ _ ?_; clear hX X)
    | (refine RunD_oF rfl rfl rfl rfl rfl ?hb ?_; (case hb => simp (disch := first | omega | (simp; done) | fail) [wrap64c, if_pos, if_neg, lwms, gb0, clms, cz0, ntpx0, cspx0, ntqx0, csqx0, gx0] <;> omega))
    | ((first | refine RunD_oU (c := #[]) rfl rfl rfl rfl rfl ?hb ?_ | refine PreD_oU (c := #[]) rfl rfl rfl rfl rfl ?hb ?_); (case hb => simp (disch := first | omega | (simp; done) | fail) [wrap64c, if_pos, if_neg, lwms, gb0, clms, cz0, ntpx0, cspx0, ntqx0, csqx0, gx0]; rfl))
    | ((first | refine PreD_o rfl rfl rfl rfl rfl (fun X hX => ?_) | (refine PreD_oT rfl rfl rfl rfl rfl rfl rfl ?hb (fun X hX => ?_); (case hb => simp (disch := first | omega | (simp; done) | fail) [wrap64c, if_pos, if_neg, lwms, gb0, clms, cz0, ntpx0, cspx0, ntqx0, csqx0, gx0] <;> omega))); (try dsimp only); simp (disch := first | omega | (simp; done) | fail) [wrap64c, if_pos, if_neg, lwms, gb0, clms, cz0, ntpx0, cspx0, ntqx0, csqx0, gx0]; refine hX _ _ ?hadd ?_; (case hadd => simp; done); clear hX X)
    | (refine PreD_oF rfl rfl rfl rfl rfl ?hb ?_; (case hb => simp (disch := first | omega | (simp; done) | fail) [wrap64c, if_pos, if_neg, lwms, gb0, clms, cz0, ntpx0, cspx0, ntqx0, csqx0, gx0] <;> omega))
    | (refine RunD_nil ?_; refine hK _ _ ?_; clear hK K)
    | (refine RunD_nil ?_)
    | (refine PreD_nil ?_; refine hK _ _ ?_; clear hK K)
    | (refine WD_skip ?_)
    | (refine WD_exit ?_)
    | (refine WD_ret ?_)
    | (refine WD_true rfl ?hb ?_; (case hb => simp (disch := first | omega | (simp; done) | fail) [wrap64c, if_pos, if_neg, lwms, gb0, clms, cz0, ntpx0, cspx0, ntqx0, csqx0, gx0] <;> omega))
    | (refine WD_false rfl ?hb ?_; (case hb => simp (disch := first | omega | (simp; done) | fail) [wrap64c, if_pos, if_neg, lwms, gb0, clms, cz0, ntpx0, cspx0, ntqx0, csqx0, gx0] <;> omega))
    | (refine hK.1 _ _ ?_; clear hK K)
    | (refine hK.2.1 _ _ ?_; clear hK K)
    | (refine hK.2 _ _ _ ?hne ?_; (case hne => simp; done); clear hK K)
    | (refine hK.2.2 _ _ _ ?hne ?_; (case hne => simp; done); clear hK K))
  refine RunD_c rfl rfl rfl rfl (by simp) (by simp) ?ha (imReachedBy_ok h5 _ _ L A ms hix0.chips hix1.ints) ?_
  (case ha => simp (disch := first | omega | (simp; done) | fail) [wrap64c, if_pos, if_neg, lwms, gb0, clms, cz0, ntpx0, cspx0, ntqx0, csqx0, gx0])
  repeat (first
    | (refine WD_block (fun K hK => ?_))
    | (refine WD_seq (fun K hK => ?_))
    | (refine WD_region (fun K hK => ?_))
    | ((first | refine RunD_o rfl rfl rfl rfl rfl (fun X hX => ?_) | refine RunD_s rfl rfl rfl rfl (fun X hX => ?_) | (refine RunD_oT rfl rfl rfl rfl rfl rfl rfl ?hb (fun X hX => ?_); (case hb => simp (disch := first | omega | (simp; done) | fail) [wrap64c, if_pos, if_neg, lwms, gb0, clms, cz0, ntpx0, cspx0, ntqx0, csqx0, gx0] <;> omega))); (try dsimp only); simp (disch := first | omega | (simp; done) | fail) [wrap64c, if_pos, if_neg, lwms, gb0, clms, cz0, ntpx0, cspx0, ntqx0, csqx0, gx0]; refine hX _ _ ?_; clear hX X)
    | (refine RunD_oF rfl rfl rfl rfl rfl ?hb ?_; (case hb => simp (disch := first | omega | (simp; done) | fail) [wrap64c, if_pos, if_neg, lwms, gb0, clms, cz0, ntpx0, cspx0, ntqx0, csqx0, gx0] <;> omega))
    | ((first | refine RunD_oU (c := #[]) rfl rfl rfl rfl rfl ?hb ?_ | refine PreD_oU (c := #[]) rfl rfl rfl rfl rfl ?hb ?_); (case hb => simp (disch := first | omega | (simp; done) | fail) [wrap64c, if_pos, if_neg, lwms, gb0, clms, cz0, ntpx0, cspx0, ntqx0, csqx0, gx0]; rfl))
    | ((first | refine PreD_o rfl rfl rfl rfl rfl (fun X hX => ?_) | (refine PreD_oT rfl rfl rfl rfl rfl rfl rfl ?hb (fun X hX => ?_); (case hb => simp (disch := first | omega | (simp; done) | fail) [wrap64c, if_pos, if_neg, lwms, gb0, clms, cz0, ntpx0, cspx0, ntqx0, csqx0, gx0] <;> omega))); (try dsimp only); simp (disch := first | omega | (simp; done) | fail) [wrap64c, if_pos, if_neg, lwms, gb0, clms, cz0, ntpx0, cspx0, ntqx0, csqx0, gx0]; refine hX _ _ ?hadd ?_; (case hadd => simp; done); clear hX X)
    | (refine PreD_oF rfl rfl rfl rfl rfl ?hb ?_; (case hb => simp (disch := first | omega | (simp; done) | fail) [wrap64c, if_pos, if_neg, lwms, gb0, clms, cz0, ntpx0, cspx0, ntqx0, csqx0, gx0] <;> omega))
    | (refine RunD_nil ?_; refine hK _ _ ?_; clear hK K)
    | (refine RunD_nil ?_)
    | (refine PreD_nil ?_; refine hK _ _ ?_; clear hK K)
    | (refine WD_skip ?_)
    | (refine WD_exit ?_)
    | (refine WD_ret ?_)
    | (refine WD_true rfl ?hb ?_; (case hb => simp (disch := first | omega | (simp; done) | fail) [wrap64c, if_pos, if_neg, lwms, gb0, clms, cz0, ntpx0, cspx0, ntqx0, csqx0, gx0] <;> omega))
    | (refine WD_false rfl ?hb ?_; (case hb => simp (disch := first | omega | (simp; done) | fail) [wrap64c, if_pos, if_neg, lwms, gb0, clms, cz0, ntpx0, cspx0, ntqx0, csqx0, gx0] <;> omega))
    | (refine hK.1 _ _ ?_; clear hK K)
    | (refine hK.2.1 _ _ ?_; clear hK K)
    | (refine hK.2 _ _ _ ?hne ?_; (case hne => simp; done); clear hK K)
    | (refine hK.2.2 _ _ _ ?hne ?_; (case hne => simp; done); clear hK K))
  refine WD_draw 3 rfl (by kernel_rfl) (fun K hK => ?_)
  repeat (first
    | (refine WD_block (fun K hK => ?_))
    | (refine WD_seq (fun K hK => ?_))
    | (refine WD_region (fun K hK => ?_))
    | ((first | refine RunD_o rfl rfl rfl rfl rfl (fun X hX => ?_) | refine RunD_s rfl rfl rfl rfl (fun X hX => ?_) | (refine RunD_oT rfl rfl rfl rfl rfl rfl rfl ?hb (fun X hX => ?_); (case hb => simp (disch := first | omega | (simp; done) | fail) [wrap64c, if_pos, if_neg, lwms, gb0, clms, cz0, ntpx0, cspx0, ntqx0, csqx0, gx0] <;> omega))); (try dsimp only); simp (disch := first | omega | (simp; done) | fail) [wrap64c, if_pos, if_neg, lwms, gb0, clms, cz0, ntpx0, cspx0, ntqx0, csqx0, gx0]; refine hX _ _ ?_; clear hX X)
    | (refine RunD_oF rfl rfl rfl rfl rfl ?hb ?_; (case hb => simp (disch := first | omega | (simp; done) | fail) [wrap64c, if_pos, if_neg, lwms, gb0, clms, cz0, ntpx0, cspx0, ntqx0, csqx0, gx0] <;> omega))
    | ((first | refine RunD_oU (c := #[]) rfl rfl rfl rfl rfl ?hb ?_ | refine PreD_oU (c := #[]) rfl rfl rfl rfl rfl ?hb ?_); (case hb => simp (disch := first | omega | (simp; done) | fail) [wrap64c, if_pos, if_neg, lwms, gb0, clms, cz0, ntpx0, cspx0, ntqx0, csqx0, gx0]; rfl))
    | ((first | refine PreD_o rfl rfl rfl rfl rfl (fun X hX => ?_) | (refine PreD_oT rfl rfl rfl rfl rfl rfl rfl ?hb (fun X hX => ?_); (case hb => simp (disch := first | omega | (simp; done) | fail) [wrap64c, if_pos, if_neg, lwms, gb0, clms, cz0, ntpx0, cspx0, ntqx0, csqx0, gx0] <;> omega))); (try dsimp only); simp (disch := first | omega | (simp; done) | fail) [wrap64c, if_pos, if_neg, lwms, gb0, clms, cz0, ntpx0, cspx0, ntqx0, csqx0, gx0]; refine hX _ _ ?hadd ?_; (case hadd => simp; done); clear hX X)
    | (refine PreD_oF rfl rfl rfl rfl rfl ?hb ?_; (case hb => simp (disch := first | omega | (simp; done) | fail) [wrap64c, if_pos, if_neg, lwms, gb0, clms, cz0, ntpx0, cspx0, ntqx0, csqx0, gx0] <;> omega))
    | (refine RunD_nil ?_; refine hK _ _ ?_; clear hK K)
    | (refine RunD_nil ?_)
    | (refine PreD_nil ?_; refine hK _ _ ?_; clear hK K)
    | (refine WD_skip ?_)
    | (refine WD_exit ?_)
    | (refine WD_ret ?_)
    | (refine WD_true rfl ?hb ?_; (case hb => simp (disch := first | omega | (simp; done) | fail) [wrap64c, if_pos, if_neg, lwms, gb0, clms, cz0, ntpx0, cspx0, ntqx0, csqx0, gx0] <;> omega))
    | (refine WD_false rfl ?hb ?_; (case hb => simp (disch := first | omega | (simp; done) | fail) [wrap64c, if_pos, if_neg, lwms, gb0, clms, cz0, ntpx0, cspx0, ntqx0, csqx0, gx0] <;> omega))
    | (refine hK.1 _ _ ?_; clear hK K)
    | (refine hK.2.1 _ _ ?_; clear hK K)
    | (refine hK.2 _ _ _ ?hne ?_; (case hne => simp; done); clear hK K)
    | (refine hK.2.2 _ _ _ ?hne ?_; (case hne => simp; done); clear hK K))
  obtain ⟨ty0, h6, hcy0, hay0, hiy0⟩ := toChips_ok h5 _ L A (hv0.keep K5) l1L l2L l3L
  refine PreD_c rfl rfl rfl rfl (by simp) (by simp) ?ha (hcy0) ?hadd ?_
  (case ha => simp (disch := first | omega | (simp; done) | fail) [wrap64c, if_pos, if_neg, lwms, gb0, clms, cz0, ntpx0, cspx0, ntqx0, csqx0, gx0])
  (case hadd => first | assumption | exact adds_self _ | (simp; done))
  have n6 := hay0.1.1
  have K6 := K5.trans hay0.1
  have gb0 : h6.get h.next = .cells [a, b] true true 1 := by rw [hay0.1.2 _ (by omega)]; exact gb0
  have gx0 : h6.get h3.next = .cells [px0, qx0] true true 1 := by rw [hay0.1.2 _ (by omega)]; exact gx0
  have his0 := his0.keep hay0.1
  have his1 := his1.keep hay0.1
  have hix0 := hix0.keep hay0.1
  have hix1 := hix1.keep hay0.1
  repeat (first
    | (refine WD_block (fun K hK => ?_))
    | (refine WD_seq (fun K hK => ?_))
    | (refine WD_region (fun K hK => ?_))
    | ((first | refine RunD_o rfl rfl rfl rfl rfl (fun X hX => ?_) | refine RunD_s rfl rfl rfl rfl (fun X hX => ?_) | (refine RunD_oT rfl rfl rfl rfl rfl rfl rfl ?hb (fun X hX => ?_); (case hb => simp (disch := first | omega | (simp; done) | fail) [wrap64c, if_pos, if_neg, lwms, gb0, clms, cz0, ntpx0, cspx0, ntqx0, csqx0, gx0] <;> omega))); (try dsimp only); simp (disch := first | omega | (simp; done) | fail) [wrap64c, if_pos, if_neg, lwms, gb0, clms, cz0, ntpx0, cspx0, ntqx0, csqx0, gx0]; refine hX _ _ ?_; clear hX X)
    | (refine RunD_oF rfl rfl rfl rfl rfl ?hb ?_; (case hb => simp (disch := first | omega | (simp; done) | fail) [wrap64c, if_pos, if_neg, lwms, gb0, clms, cz0, ntpx0, cspx0, ntqx0, csqx0, gx0] <;> omega))
    | ((first | refine RunD_oU (c := #[]) rfl rfl rfl rfl rfl ?hb ?_ | refine PreD_oU (c := #[]) rfl rfl rfl rfl rfl ?hb ?_); (case hb => simp (disch := first | omega | (simp; done) | fail) [wrap64c, if_pos, if_neg, lwms, gb0, clms, cz0, ntpx0, cspx0, ntqx0, csqx0, gx0]; rfl))
    | ((first | refine PreD_o rfl rfl rfl rfl rfl (fun X hX => ?_) | (refine PreD_oT rfl rfl rfl rfl rfl rfl rfl ?hb (fun X hX => ?_); (case hb => simp (disch := first | omega | (simp; done) | fail) [wrap64c, if_pos, if_neg, lwms, gb0, clms, cz0, ntpx0, cspx0, ntqx0, csqx0, gx0] <;> omega))); (try dsimp only); simp (disch := first | omega | (simp; done) | fail) [wrap64c, if_pos, if_neg, lwms, gb0, clms, cz0, ntpx0, cspx0, ntqx0, csqx0, gx0]; refine hX _ _ ?hadd ?_; (case hadd => simp; done); clear hX X)
    | (refine PreD_oF rfl rfl rfl rfl rfl ?hb ?_; (case hb => simp (disch := first | omega | (simp; done) | fail) [wrap64c, if_pos, if_neg, lwms, gb0, clms, cz0, ntpx0, cspx0, ntqx0, csqx0, gx0] <;> omega))
    | (refine RunD_nil ?_; refine hK _ _ ?_; clear hK K)
    | (refine RunD_nil ?_)
    | (refine PreD_nil ?_; refine hK _ _ ?_; clear hK K)
    | (refine WD_skip ?_)
    | (refine WD_exit ?_)
    | (refine WD_ret ?_)
    | (refine WD_true rfl ?hb ?_; (case hb => simp (disch := first | omega | (simp; done) | fail) [wrap64c, if_pos, if_neg, lwms, gb0, clms, cz0, ntpx0, cspx0, ntqx0, csqx0, gx0] <;> omega))
    | (refine WD_false rfl ?hb ?_; (case hb => simp (disch := first | omega | (simp; done) | fail) [wrap64c, if_pos, if_neg, lwms, gb0, clms, cz0, ntpx0, cspx0, ntqx0, csqx0, gx0] <;> omega))
    | (refine hK.1 _ _ ?_; clear hK K)
    | (refine hK.2.1 _ _ ?_; clear hK K)
    | (refine hK.2 _ _ _ ?hne ?_; (case hne => simp; done); clear hK K)
    | (refine hK.2.2 _ _ _ ?hne ?_; (case hne => simp; done); clear hK K))
  refine RunD_c rfl rfl rfl rfl (by simp) (by simp) ?ha (eqChips_ok h6 _ _ _ _ _ _ hix0.chips hiy0.chips) ?_
  (case ha => simp (disch := first | omega | (simp; done) | fail) [wrap64c, if_pos, if_neg, lwms, gb0, clms, cz0, ntpx0, cspx0, ntqx0, csqx0, gx0])
  repeat (first
    | (refine WD_block (fun K hK => ?_))
    | (refine WD_seq (fun K hK => ?_))
    | (refine WD_region (fun K hK => ?_))
    | ((first | refine RunD_o rfl rfl rfl rfl rfl (fun X hX => ?_) | refine RunD_s rfl rfl rfl rfl (fun X hX => ?_) | (refine RunD_oT rfl rfl rfl rfl rfl rfl rfl ?hb (fun X hX => ?_); (case hb => simp (disch := first | omega | (simp; done) | fail) [wrap64c, if_pos, if_neg, lwms, gb0, clms, cz0, ntpx0, cspx0, ntqx0, csqx0, gx0] <;> omega))); (try dsimp only); simp (disch := first | omega | (simp; done) | fail) [wrap64c, if_pos, if_neg, lwms, gb0, clms, cz0, ntpx0, cspx0, ntqx0, csqx0, gx0]; refine hX _ _ ?_; clear hX X)
    | (refine RunD_oF rfl rfl rfl rfl rfl ?hb ?_; (case hb => simp (disch := first | omega | (simp; done) | fail) [wrap64c, if_pos, if_neg, lwms, gb0, clms, cz0, ntpx0, cspx0, ntqx0, csqx0, gx0] <;> omega))
    | ((first | refine RunD_oU (c := #[]) rfl rfl rfl rfl rfl ?hb ?_ | refine PreD_oU (c := #[]) rfl rfl rfl rfl rfl ?hb ?_); (case hb => simp (disch := first | omega | (simp; done) | fail) [wrap64c, if_pos, if_neg, lwms, gb0, clms, cz0, ntpx0, cspx0, ntqx0, csqx0, gx0]; rfl))
    | ((first | refine PreD_o rfl rfl rfl rfl rfl (fun X hX => ?_) | (refine PreD_oT rfl rfl rfl rfl rfl rfl rfl ?hb (fun X hX => ?_); (case hb => simp (disch := first | omega | (simp; done) | fail) [wrap64c, if_pos, if_neg, lwms, gb0, clms, cz0, ntpx0, cspx0, ntqx0, csqx0, gx0] <;> omega))); (try dsimp only); simp (disch := first | omega | (simp; done) | fail) [wrap64c, if_pos, if_neg, lwms, gb0, clms, cz0, ntpx0, cspx0, ntqx0, csqx0, gx0]; refine hX _ _ ?hadd ?_; (case hadd => simp; done); clear hX X)
    | (refine PreD_oF rfl rfl rfl rfl rfl ?hb ?_; (case hb => simp (disch := first | omega | (simp; done) | fail) [wrap64c, if_pos, if_neg, lwms, gb0, clms, cz0, ntpx0, cspx0, ntqx0, csqx0, gx0] <;> omega))
    | (refine RunD_nil ?_; refine hK _ _ ?_; clear hK K)
    | (refine RunD_nil ?_)
    | (refine PreD_nil ?_; refine hK _ _ ?_; clear hK K)
    | (refine WD_skip ?_)
    | (refine WD_exit ?_)
    | (refine WD_ret ?_)
    | (refine WD_true rfl ?hb ?_; (case hb => simp (disch := first | omega | (simp; done) | fail) [wrap64c, if_pos, if_neg, lwms, gb0, clms, cz0, ntpx0, cspx0, ntqx0, csqx0, gx0] <;> omega))
    | (refine WD_false rfl ?hb ?_; (case hb => simp (disch := first | omega | (simp; done) | fail) [wrap64c, if_pos, if_neg, lwms, gb0, clms, cz0, ntpx0, cspx0, ntqx0, csqx0, gx0] <;> omega))
    | (refine hK.1 _ _ ?_; clear hK K)
    | (refine hK.2.1 _ _ ?_; clear hK K)
    | (refine hK.2 _ _ _ ?hne ?_; (case hne => simp; done); clear hK K)
    | (refine hK.2.2 _ _ _ ?hne ?_; (case hne => simp; done); clear hK K))
  obtain ⟨ty1, h7, hcy1, hay1, hiy1⟩ := toIntS_ok h6 w ms (hw0.keep K6) l1ms
  refine RunD_c rfl rfl rfl rfl (by simp) (by simp) ?ha (hcy1) ?_
  (case ha => simp (disch := first | omega | (simp; done) | fail) [wrap64c, if_pos, if_neg, lwms, gb0, clms, cz0, ntpx0, cspx0, ntqx0, csqx0, gx0])
  have n7 := hay1.1.1
  have K7 := K6.trans hay1.1
  have gb0 : h7.get h.next = .cells [a, b] true true 1 := by rw [hay1.1.2 _ (by omega)]; exact gb0
  have gx0 : h7.get h3.next = .cells [px0, qx0] true true 1 := by rw [hay1.1.2 _ (by omega)]; exact gx0
  have his0 := his0.keep hay1.1
  have his1 := his1.keep hay1.1
  have hix0 := hix0.keep hay1.1
  have hix1 := hix1.keep hay1.1
  repeat (first
    | (refine WD_block (fun K hK => ?_))
    | (refine WD_seq (fun K hK => ?_))
    | (refine WD_region (fun K hK => ?_))
    | ((first | refine RunD_o rfl rfl rfl rfl rfl (fun X hX => ?_) | refine RunD_s rfl rfl rfl rfl (fun X hX => ?_) | (refine RunD_oT rfl rfl rfl rfl rfl rfl rfl ?hb (fun X hX => ?_); (case hb => simp (disch := first | omega | (simp; done) | fail) [wrap64c, if_pos, if_neg, lwms, gb0, clms, cz0, ntpx0, cspx0, ntqx0, csqx0, gx0] <;> omega))); (try dsimp only); simp (disch := first | omega | (simp; done) | fail) [wrap64c, if_pos, if_neg, lwms, gb0, clms, cz0, ntpx0, cspx0, ntqx0, csqx0, gx0]; refine hX _ _ ?_; clear hX X)
    | (refine RunD_oF rfl rfl rfl rfl rfl ?hb ?_; (case hb => simp (disch := first | omega | (simp; done) | fail) [wrap64c, if_pos, if_neg, lwms, gb0, clms, cz0, ntpx0, cspx0, ntqx0, csqx0, gx0] <;> omega))
    | ((first | refine RunD_oU (c := #[]) rfl rfl rfl rfl rfl ?hb ?_ | refine PreD_oU (c := #[]) rfl rfl rfl rfl rfl ?hb ?_); (case hb => simp (disch := first | omega | (simp; done) | fail) [wrap64c, if_pos, if_neg, lwms, gb0, clms, cz0, ntpx0, cspx0, ntqx0, csqx0, gx0]; rfl))
    | ((first | refine PreD_o rfl rfl rfl rfl rfl (fun X hX => ?_) | (refine PreD_oT rfl rfl rfl rfl rfl rfl rfl ?hb (fun X hX => ?_); (case hb => simp (disch := first | omega | (simp; done) | fail) [wrap64c, if_pos, if_neg, lwms, gb0, clms, cz0, ntpx0, cspx0, ntqx0, csqx0, gx0] <;> omega))); (try dsimp only); simp (disch := first | omega | (simp; done) | fail) [wrap64c, if_pos, if_neg, lwms, gb0, clms, cz0, ntpx0, cspx0, ntqx0, csqx0, gx0]; refine hX _ _ ?hadd ?_; (case hadd => simp; done); clear hX X)
    | (refine PreD_oF rfl rfl rfl rfl rfl ?hb ?_; (case hb => simp (disch := first | omega | (simp; done) | fail) [wrap64c, if_pos, if_neg, lwms, gb0, clms, cz0, ntpx0, cspx0, ntqx0, csqx0, gx0] <;> omega))
    | (refine RunD_nil ?_; refine hK _ _ ?_; clear hK K)
    | (refine RunD_nil ?_)
    | (refine PreD_nil ?_; refine hK _ _ ?_; clear hK K)
    | (refine WD_skip ?_)
    | (refine WD_exit ?_)
    | (refine WD_ret ?_)
    | (refine WD_true rfl ?hb ?_; (case hb => simp (disch := first | omega | (simp; done) | fail) [wrap64c, if_pos, if_neg, lwms, gb0, clms, cz0, ntpx0, cspx0, ntqx0, csqx0, gx0] <;> omega))
    | (refine WD_false rfl ?hb ?_; (case hb => simp (disch := first | omega | (simp; done) | fail) [wrap64c, if_pos, if_neg, lwms, gb0, clms, cz0, ntpx0, cspx0, ntqx0, csqx0, gx0] <;> omega))
    | (refine hK.1 _ _ ?_; clear hK K)
    | (refine hK.2.1 _ _ ?_; clear hK K)
    | (refine hK.2 _ _ _ ?hne ?_; (case hne => simp; done); clear hK K)
    | (refine hK.2.2 _ _ _ ?hne ?_; (case hne => simp; done); clear hK K))
  refine RunD_c rfl rfl rfl rfl (by simp) (by simp) ?ha (eqIntS_ok h7 _ _ _ _ hix1.ints hiy1.ints) ?_
  (case ha => simp (disch := first | omega | (simp; done) | fail) [wrap64c, if_pos, if_neg, lwms, gb0, clms, cz0, ntpx0, cspx0, ntqx0, csqx0, gx0])
  repeat (first
    | (refine WD_block (fun K hK => ?_))
    | (refine WD_seq (fun K hK => ?_))
    | (refine WD_region (fun K hK => ?_))
    | ((first | refine RunD_o rfl rfl rfl rfl rfl (fun X hX => ?_) | refine RunD_s rfl rfl rfl rfl (fun X hX => ?_) | (refine RunD_oT rfl rfl rfl rfl rfl rfl rfl ?hb (fun X hX => ?_); (case hb => simp (disch := first | omega | (simp; done) | fail) [wrap64c, if_pos, if_neg, lwms, gb0, clms, cz0, ntpx0, cspx0, ntqx0, csqx0, gx0] <;> omega))); (try dsimp only); simp (disch := first | omega | (simp; done) | fail) [wrap64c, if_pos, if_neg, lwms, gb0, clms, cz0, ntpx0, cspx0, ntqx0, csqx0, gx0]; refine hX _ _ ?_; clear hX X)
    | (refine RunD_oF rfl rfl rfl rfl rfl ?hb ?_; (case hb => simp (disch := first | omega | (simp; done) | fail) [wrap64c, if_pos, if_neg, lwms, gb0, clms, cz0, ntpx0, cspx0, ntqx0, csqx0, gx0] <;> omega))
    | ((first | refine RunD_oU (c := #[]) rfl rfl rfl rfl rfl ?hb ?_ | refine PreD_oU (c := #[]) rfl rfl rfl rfl rfl ?hb ?_); (case hb => simp (disch := first | omega | (simp; done) | fail) [wrap64c, if_pos, if_neg, lwms, gb0, clms, cz0, ntpx0, cspx0, ntqx0, csqx0, gx0]; rfl))
    | ((first | refine PreD_o rfl rfl rfl rfl rfl (fun X hX => ?_) | (refine PreD_oT rfl rfl rfl rfl rfl rfl rfl ?hb (fun X hX => ?_); (case hb => simp (disch := first | omega | (simp; done) | fail) [wrap64c, if_pos, if_neg, lwms, gb0, clms, cz0, ntpx0, cspx0, ntqx0, csqx0, gx0] <;> omega))); (try dsimp only); simp (disch := first | omega | (simp; done) | fail) [wrap64c, if_pos, if_neg, lwms, gb0, clms, cz0, ntpx0, cspx0, ntqx0, csqx0, gx0]; refine hX _ _ ?hadd ?_; (case hadd => simp; done); clear hX X)
    | (refine PreD_oF rfl rfl rfl rfl rfl ?hb ?_; (case hb => simp (disch := first | omega | (simp; done) | fail) [wrap64c, if_pos, if_neg, lwms, gb0, clms, cz0, ntpx0, cspx0, ntqx0, csqx0, gx0] <;> omega))
    | (refine RunD_nil ?_; refine hK _ _ ?_; clear hK K)
    | (refine RunD_nil ?_)
    | (refine PreD_nil ?_; refine hK _ _ ?_; clear hK K)
    | (refine WD_skip ?_)
    | (refine WD_exit ?_)
    | (refine WD_ret ?_)
    | (refine WD_true rfl ?hb ?_; (case hb => simp (disch := first | omega | (simp; done) | fail) [wrap64c, if_pos, if_neg, lwms, gb0, clms, cz0, ntpx0, cspx0, ntqx0, csqx0, gx0] <;> omega))
    | (refine WD_false rfl ?hb ?_; (case hb => simp (disch := first | omega | (simp; done) | fail) [wrap64c, if_pos, if_neg, lwms, gb0, clms, cz0, ntpx0, cspx0, ntqx0, csqx0, gx0] <;> omega))
    | (refine hK.1 _ _ ?_; clear hK K)
    | (refine hK.2.1 _ _ ?_; clear hK K)
    | (refine hK.2 _ _ _ ?hne ?_; (case hne => simp; done); clear hK K)
    | (refine hK.2.2 _ _ _ ?hne ?_; (case hne => simp; done); clear hK K))
  exact done_ret rfl (by simp [K7])

end Go.Proofs.Ytdadnaliiegceaa
