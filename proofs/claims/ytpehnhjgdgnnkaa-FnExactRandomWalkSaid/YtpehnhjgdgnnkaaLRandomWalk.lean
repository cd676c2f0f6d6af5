/- The law on RandomWalk. -/
import Derived.Test.YtpehnhjgdgnnkaaS10
namespace Go.Proofs.Ytpehnhjgdgnnkaa
set_option linter.unusedSimpArgs false
set_option linter.unusedVariables false
set_option maxHeartbeats 4000000
open Go Go.Eng
attribute [local irreducible] WD RunD PreD Runs CallOK

theorem lawRandomWalk_ok (h : Hp) (v : Value) (N : Int) (X : List Int) (hv : Space h v N X) (w : Value) (ms : List Int) (hw : Ints h w ms) : CallOK Try.prog 7 #[v, w] h (.bool true) h := by
  refine call_P 117 _ [.tmp 4] Try.func7 rfl rfl rfl (by first | rfl | simp) ?_
  have hv0 := hv
  have hw0 := hw
  obtain ⟨b, rfl, hXX⟩ := hv
  have lwms := hw.lenD
  have lxms := hw.len
  repeat (first
    | (refine WD_block (fun K hK => ?_))
    | (refine WD_seq (fun K hK => ?_)))
  refine WD_region (fun K hK => ?_)
  repeat (first
    | ((first | refine RunD_o rfl rfl rfl rfl rfl (fun X hX => ?_) | refine RunD_s rfl rfl rfl rfl (fun X hX => ?_) | (refine RunD_oT rfl rfl rfl rfl rfl rfl rfl ?hb (fun X hX => ?_); (case hb => simp (disch := first | omega | (simp; done) | fail) [wrap64c, if_pos, if_neg, lwms] <;> omega))); (try dsimp only); simp (disch := first | omega | (simp; done) | fail) [wrap64c, if_pos, if_neg, lwms]; refine hX _ _ ?_; clear hX X)
    | (refine RunD_oF rfl rfl rfl rfl rfl ?hb ?_; (case hb => simp (disch := first | omega | (simp; done) | fail) [wrap64c, if_pos, if_neg, lwms] <;> omega))
    | ((first | refine RunD_oU (c := #[]) rfl rfl rfl rfl rfl ?hb ?_ | refine PreD_oU (c := #[]) rfl rfl rfl rfl rfl ?hb ?_); (case hb => simp (disch := first | omega | (simp; done) | fail) [wrap64c, if_pos, if_neg, lwms]; rfl)))
  first | refine WD_heap fun h0 q_h0 => ?_ | refine RunD_heap fun h0 q_h0 => ?_ | refine PreD_heap fun h0 q_h0 => ?_ | refine Done_heap fun h0 q_h0 => ?_
  have k0 : Adds h h0 := by rw [q_h0]; exact (by repeat (first | exact keep_self _ | exact adds_self _ | assumption | exact Adds.keeps (by assumption) | refine keeps_alloc ?_ _ | refine adds_alloc ?_ _ _ _ | (refine keeps_put ?_ ?hle _; (case hle => first | omega | (simp; done) | (simp; omega))) | (refine adds_put ?_ ?hle _ _ _; (case hle => first | omega | (simp; done) | (simp; omega)))))
  have K0 := k0.1
  have n0 : h0.next = h.next + 1 := by simp [q_h0]
  have gb0 : h0.get h.next = .cells [.int .i64 N, b] true true 1 := by simp [q_h0]
  by_cases clms : ms.length ≤ 1048576
  case neg =>
    repeat (first
      | (refine WD_block (fun K hK => ?_))
      | (refine WD_seq (fun K hK => ?_))
      | (refine WD_region (fun K hK => ?_))
      | ((first | refine RunD_o rfl rfl rfl rfl rfl (fun X hX => ?_) | refine RunD_s rfl rfl rfl rfl (fun X hX => ?_) | (refine RunD_oT rfl rfl rfl rfl rfl rfl rfl ?hb (fun X hX => ?_); (case hb => simp (disch := first | omega | (simp; done) | fail) [wrap64c, if_pos, if_neg, lwms, gb0, clms] <;> omega))); (try dsimp only); simp (disch := first | omega | (simp; done) | fail) [wrap64c, if_pos, if_neg, lwms, gb0, clms]; refine hX _ _ ?_; clear hX X)
      | (refine RunD_oF rfl rfl rfl rfl rfl ?hb ?_; (case hb => simp (disch := first | omega | (simp; done) | fail) [wrap64c, if_pos, if_neg, lwms, gb0, clms] <;> omega))
      | ((first | refine RunD_oU (c := #[]) rfl rfl rfl rfl rfl ?hb ?_ | refine PreD_oU (c := #[]) rfl rfl rfl rfl rfl ?hb ?_); (case hb => simp (disch := first | omega | (simp; done) | fail) [wrap64c, if_pos, if_neg, lwms, gb0, clms]; rfl))
      | ((first | refine PreD_o rfl rfl rfl rfl rfl (fun X hX => ?_) | (refine PreD_oT rfl rfl rfl rfl rfl rfl rfl ?hb (fun X hX => ?_); (case hb => simp (disch := first | omega | (simp; done) | fail) [wrap64c, if_pos, if_neg, lwms, gb0, clms] <;> omega))); (try dsimp only); simp (disch := first | omega | (simp; done) | fail) [wrap64c, if_pos, if_neg, lwms, gb0, clms]; refine hX _ _ ?hadd ?_; (case hadd => simp; done); clear hX X)
      | (refine PreD_oF rfl rfl rfl rfl rfl ?hb ?_; (case hb => simp (disch := first | omega | (simp; done) | fail) [wrap64c, if_pos, if_neg, lwms, gb0, clms] <;> omega))
      | (refine RunD_nil ?_; refine hK _ _ ?_; clear hK K)
      | (refine RunD_nil ?_)
      | (refine PreD_nil ?_; refine hK _ _ ?_; clear hK K)
      | (refine WD_skip ?_)
      | (refine WD_exit ?_)
      | (refine WD_ret ?_)
      | (refine WD_true rfl ?hb ?_; (case hb => simp (disch := first | omega | (simp; done) | fail) [wrap64c, if_pos, if_neg, lwms, gb0, clms] <;> omega))
      | (refine WD_false rfl ?hb ?_; (case hb => simp (disch := first | omega | (simp; done) | fail) [wrap64c, if_pos, if_neg, lwms, gb0, clms] <;> omega))
      | (refine hK.1 _ _ ?_; clear hK K)
      | (refine hK.2.1 _ _ ?_; clear hK K)
      | (refine hK.2 _ _ _ ?hne ?_; (case hne => simp; done); clear hK K)
      | (refine hK.2.2 _ _ _ ?hne ?_; (case hne => simp; done); clear hK K))
    exact done_ret rfl (by simp [K0])
  have l1ms : ms.length < 2 ^ 40 := by omega
  repeat (first
    | (refine WD_block (fun K hK => ?_))
    | (refine WD_seq (fun K hK => ?_))
    | (refine WD_region (fun K hK => ?_))
    | ((first | refine RunD_o rfl rfl rfl rfl rfl (fun X hX => ?_) | refine RunD_s rfl rfl rfl rfl (fun X hX => ?_) | (refine RunD_oT rfl rfl rfl rfl rfl rfl rfl ?hb (fun X hX => ?_); (case hb => simp (disch := first | omega | (simp; done) | fail) [wrap64c, if_pos, if_neg, lwms, gb0, clms] <;> omega))); (try dsimp only); simp (disch := first | omega | (simp; done) | fail) [wrap64c, if_pos, if_neg, lwms, gb0, clms]; refine hX _ _ ?_; clear hX X)
    | (refine RunD_oF rfl rfl rfl rfl rfl ?hb ?_; (case hb => simp (disch := first | omega | (simp; done) | fail) [wrap64c, if_pos, if_neg, lwms, gb0, clms] <;> omega))
    | ((first | refine RunD_oU (c := #[]) rfl rfl rfl rfl rfl ?hb ?_ | refine PreD_oU (c := #[]) rfl rfl rfl rfl rfl ?hb ?_); (case hb => simp (disch := first | omega | (simp; done) | fail) [wrap64c, if_pos, if_neg, lwms, gb0, clms]; rfl))
    | ((first | refine PreD_o rfl rfl rfl rfl rfl (fun X hX => ?_) | (refine PreD_oT rfl rfl rfl rfl rfl rfl rfl ?hb (fun X hX => ?_); (case hb => simp (disch := first | omega | (simp; done) | fail) [wrap64c, if_pos, if_neg, lwms, gb0, clms] <;> omega))); (try dsimp only); simp (disch := first | omega | (simp; done) | fail) [wrap64c, if_pos, if_neg, lwms, gb0, clms]; refine hX _ _ ?hadd ?_; (case hadd => simp; done); clear hX X)
    | (refine PreD_oF rfl rfl rfl rfl rfl ?hb ?_; (case hb => simp (disch := first | omega | (simp; done) | fail) [wrap64c, if_pos, if_neg, lwms, gb0, clms] <;> omega))
    | (refine RunD_nil ?_; refine hK _ _ ?_; clear hK K)
    | (refine RunD_nil ?_)
    | (refine PreD_nil ?_; refine hK _ _ ?_; clear hK K)
    | (refine WD_skip ?_)
    | (refine WD_exit ?_)
    | (refine WD_ret ?_)
    | (refine WD_true rfl ?hb ?_; (case hb => simp (disch := first | omega | (simp; done) | fail) [wrap64c, if_pos, if_neg, lwms, gb0, clms] <;> omega))
    | (refine WD_false rfl ?hb ?_; (case hb => simp (disch := first | omega | (simp; done) | fail) [wrap64c, if_pos, if_neg, lwms, gb0, clms] <;> omega))
    | (refine hK.1 _ _ ?_; clear hK K)
    | (refine hK.2.1 _ _ ?_; clear hK K)
    | (refine hK.2 _ _ _ ?hne ?_; (case hne => simp; done); clear hK K)
    | (refine hK.2.2 _ _ _ ?hne ?_; (case hne => simp; done); clear hK K))
  refine RunD_c rfl rfl rfl rfl (by simp) (by simp) ?ha (szSpace_ok h0 _ N X (1048576) (hv0.keep K0) (by omega) (by omega)) ?_
  (case ha => simp (disch := first | omega | (simp; done) | fail) [wrap64c, if_pos, if_neg, lwms, gb0, clms])
  by_cases cz0 : szS (1048576) X < 0
  case pos =>
    repeat (first
      | (refine WD_block (fun K hK => ?_))
      | (refine WD_seq (fun K hK => ?_))
      | (refine WD_region (fun K hK => ?_))
      | ((first | refine RunD_o rfl rfl rfl rfl rfl (fun X hX => ?_) | refine RunD_s rfl rfl rfl rfl (fun X hX => ?_) | (refine RunD_oT rfl rfl rfl rfl rfl rfl rfl ?hb (fun X hX => ?_); (case hb => simp (disch := first | omega | (simp; done) | fail) [wrap64c, if_pos, if_neg, lwms, gb0, clms, cz0] <;> omega))); (try dsimp only); simp (disch := first | omega | (simp; done) | fail) [wrap64c, if_pos, if_neg, lwms, gb0, clms, cz0]; refine hX _ _ ?_; clear hX X)
      | (refine RunD_oF rfl rfl rfl rfl rfl ?hb ?_; (case hb => simp (disch := first | omega | (simp; done) | fail) [wrap64c, if_pos, if_neg, lwms, gb0, clms, cz0] <;> omega))
      | ((first | refine RunD_oU (c := #[]) rfl rfl rfl rfl rfl ?hb ?_ | refine PreD_oU (c := #[]) rfl rfl rfl rfl rfl ?hb ?_); (case hb => simp (disch := first | omega | (simp; done) | fail) [wrap64c, if_pos, if_neg, lwms, gb0, clms, cz0]; rfl))
      | ((first | refine PreD_o rfl rfl rfl rfl rfl (fun X hX => ?_) | (refine PreD_oT rfl rfl rfl rfl rfl rfl rfl ?hb (fun X hX => ?_); (case hb => simp (disch := first | omega | (simp; done) | fail) [wrap64c, if_pos, if_neg, lwms, gb0, clms, cz0] <;> omega))); (try dsimp only); simp (disch := first | omega | (simp; done) | fail) [wrap64c, if_pos, if_neg, lwms, gb0, clms, cz0]; refine hX _ _ ?hadd ?_; (case hadd => simp; done); clear hX X)
      | (refine PreD_oF rfl rfl rfl rfl rfl ?hb ?_; (case hb => simp (disch := first | omega | (simp; done) | fail) [wrap64c, if_pos, if_neg, lwms, gb0, clms, cz0] <;> omega))
      | (refine RunD_nil ?_; refine hK _ _ ?_; clear hK K)
      | (refine RunD_nil ?_)
      | (refine PreD_nil ?_; refine hK _ _ ?_; clear hK K)
      | (refine WD_skip ?_)
      | (refine WD_exit ?_)
      | (refine WD_ret ?_)
      | (refine WD_true rfl ?hb ?_; (case hb => simp (disch := first | omega | (simp; done) | fail) [wrap64c, if_pos, if_neg, lwms, gb0, clms, cz0] <;> omega))
      | (refine WD_false rfl ?hb ?_; (case hb => simp (disch := first | omega | (simp; done) | fail) [wrap64c, if_pos, if_neg, lwms, gb0, clms, cz0] <;> omega))
      | (refine hK.1 _ _ ?_; clear hK K)
      | (refine hK.2.1 _ _ ?_; clear hK K)
      | (refine hK.2 _ _ _ ?hne ?_; (case hne => simp; done); clear hK K)
      | (refine hK.2.2 _ _ _ ?hne ?_; (case hne => simp; done); clear hK K))
    exact done_ret rfl (by simp [K0])
  have lz0 := szS_len cz0
  have l1X : X.length < 2 ^ 40 := by omega
  repeat (first
    | (refine WD_block (fun K hK => ?_))
    | (refine WD_seq (fun K hK => ?_))
    | (refine WD_region (fun K hK => ?_))
    | ((first | refine RunD_o rfl rfl rfl rfl rfl (fun X hX => ?_) | refine RunD_s rfl rfl rfl rfl (fun X hX => ?_) | (refine RunD_oT rfl rfl rfl rfl rfl rfl rfl ?hb (fun X hX => ?_); (case hb => simp (disch := first | omega | (simp; done) | fail) [wrap64c, if_pos, if_neg, lwms, gb0, clms, cz0] <;> omega))); (try dsimp only); simp (disch := first | omega | (simp; done) | fail) [wrap64c, if_pos, if_neg, lwms, gb0, clms, cz0]; refine hX _ _ ?_; clear hX X)
    | (refine RunD_oF rfl rfl rfl rfl rfl ?hb ?_; (case hb => simp (disch := first | omega | (simp; done) | fail) [wrap64c, if_pos, if_neg, lwms, gb0, clms, cz0] <;> omega))
    | ((first | refine RunD_oU (c := #[]) rfl rfl rfl rfl rfl ?hb ?_ | refine PreD_oU (c := #[]) rfl rfl rfl rfl rfl ?hb ?_); (case hb => simp (disch := first | omega | (simp; done) | fail) [wrap64c, if_pos, if_neg, lwms, gb0, clms, cz0]; rfl))
    | ((first | refine PreD_o rfl rfl rfl rfl rfl (fun X hX => ?_) | (refine PreD_oT rfl rfl rfl rfl rfl rfl rfl ?hb (fun X hX => ?_); (case hb => simp (disch := first | omega | (simp; done) | fail) [wrap64c, if_pos, if_neg, lwms, gb0, clms, cz0] <;> omega))); (try dsimp only); simp (disch := first | omega | (simp; done) | fail) [wrap64c, if_pos, if_neg, lwms, gb0, clms, cz0]; refine hX _ _ ?hadd ?_; (case hadd => simp; done); clear hX X)
    | (refine PreD_oF rfl rfl rfl rfl rfl ?hb ?_; (case hb => simp (disch := first | omega | (simp; done) | fail) [wrap64c, if_pos, if_neg, lwms, gb0, clms, cz0] <;> omega))
    | (refine RunD_nil ?_; refine hK _ _ ?_; clear hK K)
    | (refine RunD_nil ?_)
    | (refine PreD_nil ?_; refine hK _ _ ?_; clear hK K)
    | (refine WD_skip ?_)
    | (refine WD_exit ?_)
    | (refine WD_ret ?_)
    | (refine WD_true rfl ?hb ?_; (case hb => simp (disch := first | omega | (simp; done) | fail) [wrap64c, if_pos, if_neg, lwms, gb0, clms, cz0] <;> omega))
    | (refine WD_false rfl ?hb ?_; (case hb => simp (disch := first | omega | (simp; done) | fail) [wrap64c, if_pos, if_neg, lwms, gb0, clms, cz0] <;> omega))
    | (refine hK.1 _ _ ?_; clear hK K)
    | (refine hK.2.1 _ _ ?_; clear hK K)
    | (refine hK.2 _ _ _ ?hne ?_; (case hne => simp; done); clear hK K)
    | (refine hK.2.2 _ _ _ ?hne ?_; (case hne => simp; done); clear hK K))
  have lb := walkR_len N X ms
  obtain ⟨ts0, h1, hcs0, has0, his0⟩ := toSpace_ok h0 _ N X (hv0.keep K0) l1X
  refine RunD_c rfl rfl rfl rfl (by simp) (by simp) ?ha (hcs0) ?_
  (case ha => simp (disch := first | omega | (simp; done) | fail) [wrap64c, if_pos, if_neg, lwms, gb0, clms, cz0])
  have n1 := has0.1.1
  have K1 := K0.trans has0.1
  have gb0 : h1.get h.next = .cells [.int .i64 N, b] true true 1 := by rw [has0.1.2 _ (by omega)]; exact gb0
  repeat (first
    | (refine WD_block (fun K hK => ?_))
    | (refine WD_seq (fun K hK => ?_))
    | (refine WD_region (fun K hK => ?_))
    | ((first | refine RunD_o rfl rfl rfl rfl rfl (fun X hX => ?_) | refine RunD_s rfl rfl rfl rfl (fun X hX => ?_) | (refine RunD_oT rfl rfl rfl rfl rfl rfl rfl ?hb (fun X hX => ?_); (case hb => simp (disch := first | omega | (simp; done) | fail) [wrap64c, if_pos, if_neg, lwms, gb0, clms, cz0] <;> omega))); (try dsimp only); simp (disch := first | omega | (simp; done) | fail) [wrap64c, if_pos, if_neg, lwms, gb0, clms, cz0]; refine hX _ _ ?_; clear hX X)
    | (refine RunD_oF rfl rfl rfl rfl rfl ?hb ?_; (case hb => simp (disch := first | omega | (simp; done) | fail) [wrap64c, if_pos, if_neg, lwms, gb0, clms, cz0] <;> omega))
    | ((first | refine RunD_oU (c := #[]) rfl rfl rfl rfl rfl ?hb ?_ | refine PreD_oU (c := #[]) rfl rfl rfl rfl rfl ?hb ?_); (case hb => simp (disch := first | omega | (simp; done) | fail) [wrap64c, if_pos, if_neg, lwms, gb0, clms, cz0]; rfl))
    | ((first | refine PreD_o rfl rfl rfl rfl rfl (fun X hX => ?_) | (refine PreD_oT rfl rfl rfl rfl rfl rfl rfl ?hb (fun X hX => ?_); (case hb => simp (disch := first | omega | (simp; done) | fail) [wrap64c, if_pos, if_neg, lwms, gb0, clms, cz0] <;> omega))); (try dsimp only); simp (disch := first | omega | (simp; done) | fail) [wrap64c, if_pos, if_neg, lwms, gb0, clms, cz0]; refine hX _ _ ?hadd ?_; (case hadd => simp; done); clear hX X)
    | (refine PreD_oF rfl rfl rfl rfl rfl ?hb ?_; (case hb => simp (disch := first | omega | (simp; done) | fail) [wrap64c, if_pos, if_neg, lwms, gb0, clms, cz0] <;> omega))
    | (refine RunD_nil ?_; refine hK _ _ ?_; clear hK K)
    | (refine RunD_nil ?_)
    | (refine PreD_nil ?_; refine hK _ _ ?_; clear hK K)
    | (refine WD_skip ?_)
    | (refine WD_exit ?_)
    | (refine WD_ret ?_)
    | (refine WD_true rfl ?hb ?_; (case hb => simp (disch := first | omega | (simp; done) | fail) [wrap64c, if_pos, if_neg, lwms, gb0, clms, cz0] <;> omega))
    | (refine WD_false rfl ?hb ?_; (case hb => simp (disch := first | omega | (simp; done) | fail) [wrap64c, if_pos, if_neg, lwms, gb0, clms, cz0] <;> omega))
    | (refine hK.1 _ _ ?_; clear hK K)
    | (refine hK.2.1 _ _ ?_; clear hK K)
    | (refine hK.2 _ _ _ ?hne ?_; (case hne => simp; done); clear hK K)
    | (refine hK.2.2 _ _ _ ?hne ?_; (case hne => simp; done); clear hK K))
  obtain ⟨ts1, h2, hcs1, has1, his1⟩ := toIntS_ok h1 w ms (hw0.keep K1) l1ms
  refine RunD_c rfl rfl rfl rfl (by simp) (by simp) ?ha (hcs1) ?_
  (case ha => simp (disch := first | omega | (simp; done) | fail) [wrap64c, if_pos, if_neg, lwms, gb0, clms, cz0])
  have n2 := has1.1.1
  have K2 := K1.trans has1.1
  have gb0 : h2.get h.next = .cells [.int .i64 N, b] true true 1 := by rw [has1.1.2 _ (by omega)]; exact gb0
  have his0 := his0.keep has1.1
  repeat (first
    | (refine WD_block (fun K hK => ?_))
    | (refine WD_seq (fun K hK => ?_))
    | (refine WD_region (fun K hK => ?_))
    | ((first | refine RunD_o rfl rfl rfl rfl rfl (fun X hX => ?_) | refine RunD_s rfl rfl rfl rfl (fun X hX => ?_) | (refine RunD_oT rfl rfl rfl rfl rfl rfl rfl ?hb (fun X hX => ?_); (case hb => simp (disch := first | omega | (simp; done) | fail) [wrap64c, if_pos, if_neg, lwms, gb0, clms, cz0] <;> omega))); (try dsimp only); simp (disch := first | omega | (simp; done) | fail) [wrap64c, if_pos, if_neg, lwms, gb0, clms, cz0]; refine hX _ _ ?_; clear hX X)
    | (refine RunD_oF rfl rfl rfl rfl rfl ?hb ?_; (case hb => simp (disch := first | omega | (simp; done) | fail) [wrap64c, if_pos, if_neg, lwms, gb0, clms, cz0] <;> omega))
    | ((first | refine RunD_oU (c := #[]) rfl rfl rfl rfl rfl ?hb ?_ | refine PreD_oU (c := #[]) rfl rfl rfl rfl rfl ?hb ?_); (case hb => simp (disch := first | omega | (simp; done) | fail) [wrap64c, if_pos, if_neg, lwms, gb0, clms, cz0]; rfl))
    | ((first | refine PreD_o rfl rfl rfl rfl rfl (fun X hX => ?_) | (refine PreD_oT rfl rfl rfl rfl rfl rfl rfl ?hb (fun X hX => ?_); (case hb => simp (disch := first | omega | (simp; done) | fail) [wrap64c, if_pos, if_neg, lwms, gb0, clms, cz0] <;> omega))); (try dsimp only); simp (disch := first | omega | (simp; done) | fail) [wrap64c, if_pos, if_neg, lwms, gb0, clms, cz0]; refine hX _ _ ?hadd ?_; (case hadd => simp; done); clear hX X)
    | (refine PreD_oF rfl rfl rfl rfl rfl ?hb ?_; (case hb => simp (disch := first | omega | (simp; done) | fail) [wrap64c, if_pos, if_neg, lwms, gb0, clms, cz0] <;> omega))
    | (refine RunD_nil ?_; refine hK _ _ ?_; clear hK K)
    | (refine RunD_nil ?_)
    | (refine PreD_nil ?_; refine hK _ _ ?_; clear hK K)
    | (refine WD_skip ?_)
    | (refine WD_exit ?_)
    | (refine WD_ret ?_)
    | (refine WD_true rfl ?hb ?_; (case hb => simp (disch := first | omega | (simp; done) | fail) [wrap64c, if_pos, if_neg, lwms, gb0, clms, cz0] <;> omega))
    | (refine WD_false rfl ?hb ?_; (case hb => simp (disch := first | omega | (simp; done) | fail) [wrap64c, if_pos, if_neg, lwms, gb0, clms, cz0] <;> omega))
    | (refine hK.1 _ _ ?_; clear hK K)
    | (refine hK.2.1 _ _ ?_; clear hK K)
    | (refine hK.2 _ _ _ ?hne ?_; (case hne => simp; done); clear hK K)
    | (refine hK.2.2 _ _ _ ?hne ?_; (case hne => simp; done); clear hK K))
  obtain ⟨_, h3, hcw, haw, uw0, rfl, huw0⟩ := specWalk_ok h2 _ _ N X ms his0.space his1.ints l1X l1ms
  refine RunD_c rfl rfl rfl rfl (by simp) (by simp) ?ha (hcw) ?_
  (case ha => simp (disch := first | omega | (simp; done) | fail) [wrap64c, if_pos, if_neg, lwms, gb0, clms, cz0])
  have n3 := haw.1.1
  have K3 := K2.trans haw.1
  have gb0 : h3.get h.next = .cells [.int .i64 N, b] true true 1 := by rw [haw.1.2 _ (by omega)]; exact gb0
  have his0 := his0.keep haw.1
  have his1 := his1.keep haw.1
  repeat (first
    | (refine WD_block (fun K hK => ?_))
    | (refine WD_seq (fun K hK => ?_))
    | (refine WD_region (fun K hK => ?_))
    | ((first | refine RunD_o rfl rfl rfl rfl rfl (fun X hX => ?_) | refine RunD_s rfl rfl rfl rfl (fun X hX => ?_) | (refine RunD_oT rfl rfl rfl rfl rfl rfl rfl ?hb (fun X hX => ?_); (case hb => simp (disch := first | omega | (simp; done) | fail) [wrap64c, if_pos, if_neg, lwms, gb0, clms, cz0] <;> omega))); (try dsimp only); simp (disch := first | omega | (simp; done) | fail) [wrap64c, if_pos, if_neg, lwms, gb0, clms, cz0]; refine hX _ _ ?_; clear hX X)
    | (refine RunD_oF rfl rfl rfl rfl rfl ?hb ?_; (case hb => simp (disch := first | omega | (simp; done) | fail) [wrap64c, if_pos, if_neg, lwms, gb0, clms, cz0] <;> omega))
    | ((first | refine RunD_oU (c := #[]) rfl rfl rfl rfl rfl ?hb ?_ | refine PreD_oU (c := #[]) rfl rfl rfl rfl rfl ?hb ?_); (case hb => simp (disch := first | omega | (simp; done) | fail) [wrap64c, if_pos, if_neg, lwms, gb0, clms, cz0]; rfl))
    | ((first | refine PreD_o rfl rfl rfl rfl rfl (fun X hX => ?_) | (refine PreD_oT rfl rfl rfl rfl rfl rfl rfl ?hb (fun X hX => ?_); (case hb => simp (disch := first | omega | (simp; done) | fail) [wrap64c, if_pos, if_neg, lwms, gb0, clms, cz0] <;> omega))); (try dsimp only); simp (disch := first | omega | (simp; done) | fail) [wrap64c, if_pos, if_neg, lwms, gb0, clms, cz0]; refine hX _ _ ?hadd ?_; (case hadd => simp; done); clear hX X)
    | (refine PreD_oF rfl rfl rfl rfl rfl ?hb ?_; (case hb => simp (disch := first | omega | (simp; done) | fail) [wrap64c, if_pos, if_neg, lwms, gb0, clms, cz0] <;> omega))
    | (refine RunD_nil ?_; refine hK _ _ ?_; clear hK K)
    | (refine RunD_nil ?_)
    | (refine PreD_nil ?_; refine hK _ _ ?_; clear hK K)
    | (refine WD_skip ?_)
    | (refine WD_exit ?_)
    | (refine WD_ret ?_)
    | (refine WD_true rfl ?hb ?_; (case hb => simp (disch := first | omega | (simp; done) | fail) [wrap64c, if_pos, if_neg, lwms, gb0, clms, cz0] <;> omega))
    | (refine WD_false rfl ?hb ?_; (case hb => simp (disch := first | omega | (simp; done) | fail) [wrap64c, if_pos, if_neg, lwms, gb0, clms, cz0] <;> omega))
    | (refine hK.1 _ _ ?_; clear hK K)
    | (refine hK.2.1 _ _ ?_; clear hK K)
    | (refine hK.2 _ _ _ ?hne ?_; (case hne => simp; done); clear hK K)
    | (refine hK.2.2 _ _ _ ?hne ?_; (case hne => simp; done); clear hK K))
  obtain ⟨tx0, h4, hcx0, hax0, hix0⟩ := toSpace_ok h3 _ N X (hv0.keep K3) l1X
  have hix0' := hix0
  obtain ⟨qx0, rfl, hqx0⟩ := hix0'
  have ntqx0 := hqx0.nt
  have csqx0 := hqx0.cs
  refine RunD_c rfl rfl rfl rfl (by simp) (by simp) ?ha (hcx0) ?_
  (case ha => simp (disch := first | omega | (simp; done) | fail) [wrap64c, if_pos, if_neg, lwms, gb0, clms, cz0, ntqx0, csqx0])
  have n4 := hax0.1.1
  have K4 := K3.trans hax0.1
  have gb0 : h4.get h.next = .cells [.int .i64 N, b] true true 1 := by rw [hax0.1.2 _ (by omega)]; exact gb0
  have his0 := his0.keep hax0.1
  have his1 := his1.keep hax0.1
  have huw0 := huw0.keep hax0.1
  repeat (first
    | (refine WD_block (fun K hK => ?_))
    | (refine WD_seq (fun K hK => ?_))
    | (refine WD_region (fun K hK => ?_))
    | ((first | refine RunD_o rfl rfl rfl rfl rfl (fun X hX => ?_) | refine RunD_s rfl rfl rfl rfl (fun X hX => ?_) | (refine RunD_oT rfl rfl rfl rfl rfl rfl rfl ?hb (fun X hX => ?_); (case hb => simp (disch := first | omega | (simp; done) | fail) [wrap64c, if_pos, if_neg, lwms, gb0, clms, cz0, ntqx0, csqx0, putCells] <;> omega))); (try dsimp only); simp (disch := first | omega | (simp; done) | fail) [wrap64c, if_pos, if_neg, lwms, gb0, clms, cz0, ntqx0, csqx0, putCells]; refine hX _ _ ?_; clear hX X)
    | (refine RunD_oF rfl rfl rfl rfl rfl ?hb ?_; (case hb => simp (disch := first | omega | (simp; done) | fail) [wrap64c, if_pos, if_neg, lwms, gb0, clms, cz0, ntqx0, csqx0, putCells] <;> omega))
    | ((first | refine RunD_oU (c := #[]) rfl rfl rfl rfl rfl ?hb ?_ | refine PreD_oU (c := #[]) rfl rfl rfl rfl rfl ?hb ?_); (case hb => simp (disch := first | omega | (simp; done) | fail) [wrap64c, if_pos, if_neg, lwms, gb0, clms, cz0, ntqx0, csqx0, putCells]; rfl))
    | ((first | refine PreD_o rfl rfl rfl rfl rfl (fun X hX => ?_) | (refine PreD_oT rfl rfl rfl rfl rfl rfl rfl ?hb (fun X hX => ?_); (case hb => simp (disch := first | omega | (simp; done) | fail) [wrap64c, if_pos, if_neg, lwms, gb0, clms, cz0, ntqx0, csqx0, putCells] <;> omega))); (try dsimp only); simp (disch := first | omega | (simp; done) | fail) [wrap64c, if_pos, if_neg, lwms, gb0, clms, cz0, ntqx0, csqx0, putCells]; refine hX _ _ ?hadd ?_; (case hadd => simp; done); clear hX X)
    | (refine PreD_oF rfl rfl rfl rfl rfl ?hb ?_; (case hb => simp (disch := first | omega | (simp; done) | fail) [wrap64c, if_pos, if_neg, lwms, gb0, clms, cz0, ntqx0, csqx0, putCells] <;> omega))
    | (refine RunD_nil ?_; refine hK _ _ ?_; clear hK K)
    | (refine RunD_nil ?_)
    | (refine PreD_nil ?_; refine hK _ _ ?_; clear hK K)
    | (refine WD_skip ?_)
    | (refine WD_exit ?_)
    | (refine WD_ret ?_)
    | (refine WD_true rfl ?hb ?_; (case hb => simp (disch := first | omega | (simp; done) | fail) [wrap64c, if_pos, if_neg, lwms, gb0, clms, cz0, ntqx0, csqx0, putCells] <;> omega))
    | (refine WD_false rfl ?hb ?_; (case hb => simp (disch := first | omega | (simp; done) | fail) [wrap64c, if_pos, if_neg, lwms, gb0, clms, cz0, ntqx0, csqx0, putCells] <;> omega))
    | (refine hK.1 _ _ ?_; clear hK K)
    | (refine hK.2.1 _ _ ?_; clear hK K)
    | (refine hK.2 _ _ _ ?hne ?_; (case hne => simp; done); clear hK K)
    | (refine hK.2.2 _ _ _ ?hne ?_; (case hne => simp; done); clear hK K))
  first | refine WD_heap fun h5 q_h5 => ?_ | refine RunD_heap fun h5 q_h5 => ?_ | refine PreD_heap fun h5 q_h5 => ?_ | refine Done_heap fun h5 q_h5 => ?_
  have hbx0 : Adds h4 h5 := by rw [q_h5]; exact (by repeat (first | exact keep_self _ | exact adds_self _ | assumption | exact Adds.keeps (by assumption) | refine keeps_alloc ?_ _ | refine adds_alloc ?_ _ _ _ | (refine keeps_put ?_ ?hle _; (case hle => first | omega | (simp; done) | (simp; omega))) | (refine adds_put ?_ ?hle _ _ _; (case hle => first | omega | (simp; done) | (simp; omega)))))
  have n5 := hbx0.1.1
  have K5 := K4.trans hbx0.1
  have gb0 : h5.get h.next = .cells [.int .i64 N, b] true true 1 := by rw [hbx0.1.2 _ (by omega)]; exact gb0
  have his0 := his0.keep hbx0.1
  have his1 := his1.keep hbx0.1
  have huw0 := huw0.keep hbx0.1
  have hix0 := hix0.keep hbx0.1
  have m5 : h5.next = h4.next + 1 := by simp [q_h5]
  have gx0 : h5.get h4.next = .cells [.int .i64 (N), qx0] true true 1 := by simp [q_h5]
  repeat (first
    | (refine WD_block (fun K hK => ?_))
    | (refine WD_seq (fun K hK => ?_))
    | (refine WD_region (fun K hK => ?_))
    | ((first | refine RunD_o rfl rfl rfl rfl rfl (fun X hX => ?_) | refine RunD_s rfl rfl rfl rfl (fun X hX => ?_) | (refine RunD_oT rfl rfl rfl rfl rfl rfl rfl ?hb (fun X hX => ?_); (case hb => simp (disch := first | omega | (simp; done) | fail) [wrap64c, if_pos, if_neg, lwms, gb0, clms, cz0, ntqx0, csqx0, gx0] <;> omega))); (try dsimp only); simp (disch := first | omega | (simp; done) | fail) [wrap64c, if_pos, if_neg, lwms, gb0, clms, cz0, ntqx0, csqx0, gx0]; refine hX _ _ ?_; clear hX X)
    | (refine RunD_oF rfl rfl rfl rfl rfl ?hb ?_; (case hb => simp (disch := first | omega | (simp; done) | fail) [wrap64c, if_pos, if_neg, lwms, gb0, clms, cz0, ntqx0, csqx0, gx0] <;> omega))
    | ((first | refine RunD_oU (c := #[]) rfl rfl rfl rfl rfl ?hb ?_ | refine PreD_oU (c := #[]) rfl rfl rfl rfl rfl ?hb ?_); (case hb => simp (disch := first | omega | (simp; done) | fail) [wrap64c, if_pos, if_neg, lwms, gb0, clms, cz0, ntqx0, csqx0, gx0]; rfl))
    | ((first | refine PreD_o rfl rfl rfl rfl rfl (fun X hX => ?_) | (refine PreD_oT rfl rfl rfl rfl rfl rfl rfl ?hb (fun X hX => ?_); (case hb => simp (disch := first | omega | (simp; done) | fail) [wrap64c, if_pos, if_neg, lwms, gb0, clms, cz0, ntqx0, csqx0, gx0] <;> omega))); (try dsimp only); simp (disch := first | omega | (simp; done) | fail) [wrap64c, if_pos, if_neg, lwms, gb0, clms, cz0, ntqx0, csqx0, gx0]; refine hX _ _ ?hadd ?_; (case hadd => simp; done); clear hX X)
    | (refine PreD_oF rfl rfl rfl rfl rfl ?hb ?_; (case hb => simp (disch := first | omega | (simp; done) | fail) [wrap64c, if_pos, if_neg, lwms, gb0, clms, cz0, ntqx0, csqx0, gx0] <;> omega))
    | (refine RunD_nil ?_; refine hK _ _ ?_; clear hK K)
    | (refine RunD_nil ?_)
    | (refine PreD_nil ?_; refine hK _ _ ?_; clear hK K)
    | (refine WD_skip ?_)
    | (refine WD_exit ?_)
    | (refine WD_ret ?_)
    | (refine WD_true rfl ?hb ?_; (case hb => simp (disch := first | omega | (simp; done) | fail) [wrap64c, if_pos, if_neg, lwms, gb0, clms, cz0, ntqx0, csqx0, gx0] <;> omega))
    | (refine WD_false rfl ?hb ?_; (case hb => simp (disch := first | omega | (simp; done) | fail) [wrap64c, if_pos, if_neg, lwms, gb0, clms, cz0, ntqx0, csqx0, gx0] <;> omega))
    | (refine hK.1 _ _ ?_; clear hK K)
    | (refine hK.2.1 _ _ ?_; clear hK K)
    | (refine hK.2 _ _ _ ?hne ?_; (case hne => simp; done); clear hK K)
    | (refine hK.2.2 _ _ _ ?hne ?_; (case hne => simp; done); clear hK K))
  obtain ⟨tx1, h6, hcx1, hax1, hix1⟩ := toIntS_ok h5 w ms (hw0.keep K5) l1ms
  refine RunD_c rfl rfl rfl rfl (by simp) (by simp) ?ha (hcx1) ?_
  (case ha => simp (disch := first | omega | (simp; done) | fail) [wrap64c, if_pos, if_neg, lwms, gb0, clms, cz0, ntqx0, csqx0, gx0])
  have n6 := hax1.1.1
  have K6 := K5.trans hax1.1
  have gb0 : h6.get h.next = .cells [.int .i64 N, b] true true 1 := by rw [hax1.1.2 _ (by omega)]; exact gb0
  have gx0 : h6.get h4.next = .cells [.int .i64 (N), qx0] true true 1 := by rw [hax1.1.2 _ (by omega)]; exact gx0
  have his0 := his0.keep hax1.1
  have his1 := his1.keep hax1.1
  have huw0 := huw0.keep hax1.1
  have hix0 := hix0.keep hax1.1
  repeat (first
    | (refine WD_block (fun K hK => ?_))
    | (refine WD_seq (fun K hK => ?_))
    | (refine WD_region (fun K hK => ?_))
    | ((first | refine RunD_o rfl rfl rfl rfl rfl (fun X hX => ?_) | refine RunD_s rfl rfl rfl rfl (fun X hX => ?_) | (refine RunD_oT rfl rfl rfl rfl rfl rfl rfl ?hb (fun X hX => ?_); (case hb => simp (disch := first | omega | (simp; done) | fail) [wrap64c, if_pos, if_neg, lwms, gb0, clms, cz0, ntqx0, csqx0, gx0] <;> omega))); (try dsimp only); simp (disch := first | omega | (simp; done) | fail) [wrap64c, if_pos, if_neg, lwms, gb0, clms, cz0, ntqx0, csqx0, gx0]; refine hX _ _ ?_; clear hX X)
    | (refine RunD_oF rfl rfl rfl rfl rfl ?hb ?_; (case hb => simp (disch := first | omega | (simp; done) | fail) [wrap64c, if_pos, if_neg, lwms, gb0, clms, cz0, ntqx0, csqx0, gx0] <;> omega))
    | ((first | refine RunD_oU (c := #[]) rfl rfl rfl rfl rfl ?hb ?_ | refine PreD_oU (c := #[]) rfl rfl rfl rfl rfl ?hb ?_); (case hb => simp (disch := first | omega | (simp; done) | fail) [wrap64c, if_pos, if_neg, lwms, gb0, clms, cz0, ntqx0, csqx0, gx0]; rfl))
    | ((first | refine PreD_o rfl rfl rfl rfl rfl (fun X hX => ?_) | (refine PreD_oT rfl rfl rfl rfl rfl rfl rfl ?hb (fun X hX => ?_); (case hb => simp (disch := first | omega | (simp; done) | fail) [wrap64c, if_pos, if_neg, lwms, gb0, clms, cz0, ntqx0, csqx0, gx0] <;> omega))); (try dsimp only); simp (disch := first | omega | (simp; done) | fail) [wrap64c, if_pos, if_neg, lwms, gb0, clms, cz0, ntqx0, csqx0, gx0]; refine hX _ _ ?hadd ?_; (case hadd => simp; done); clear hX X)
    | (refine PreD_oF rfl rfl rfl rfl rfl ?hb ?_; (case hb => simp (disch := first | omega | (simp; done) | fail) [wrap64c, if_pos, if_neg, lwms, gb0, clms, cz0, ntqx0, csqx0, gx0] <;> omega))
    | (refine RunD_nil ?_; refine hK _ _ ?_; clear hK K)
    | (refine RunD_nil ?_)
    | (refine PreD_nil ?_; refine hK _ _ ?_; clear hK K)
    | (refine WD_skip ?_)
    | (refine WD_exit ?_)
    | (refine WD_ret ?_)
    | (refine WD_true rfl ?hb ?_; (case hb => simp (disch := first | omega | (simp; done) | fail) [wrap64c, if_pos, if_neg, lwms, gb0, clms, cz0, ntqx0, csqx0, gx0] <;> omega))
    | (refine WD_false rfl ?hb ?_; (case hb => simp (disch := first | omega | (simp; done) | fail) [wrap64c, if_pos, if_neg, lwms, gb0, clms, cz0, ntqx0, csqx0, gx0] <;> omega))
    | (refine hK.1 _ _ ?_; clear hK K)
    | (refine hK.2.1 _ _ ?_; clear hK K)
    | (refine hK.2 _ _ _ ?hne ?_; (case hne => simp; done); clear hK K)
    | (refine hK.2.2 _ _ _ ?hne ?_; (case hne => simp; done); clear hK K))
  obtain ⟨_, h7, hcg, hag, ug0, rfl, hug0⟩ := implWalk_ok h6 _ _ N X ms hix0.space hix1.ints l1X l1ms
  refine RunD_c rfl rfl rfl rfl (by simp) (by simp) ?ha (hcg) ?_
  (case ha => simp (disch := first | omega | (simp; done) | fail) [wrap64c, if_pos, if_neg, lwms, gb0, clms, cz0, ntqx0, csqx0, gx0])
  have n7 := hag.1.1
  have K7 := K6.trans hag.1
  have gb0 : h7.get h.next = .cells [.int .i64 N, b] true true 1 := by rw [hag.1.2 _ (by omega)]; exact gb0
  have gx0 : h7.get h4.next = .cells [.int .i64 (N), qx0] true true 1 := by rw [hag.1.2 _ (by omega)]; exact gx0
  have his0 := his0.keep hag.1
  have his1 := his1.keep hag.1
  have huw0 := huw0.keep hag.1
  have hix0 := hix0.keep hag.1
  have hix1 := hix1.keep hag.1
  repeat (first
    | (refine WD_block (fun K hK => ?_))
    | (refine WD_seq (fun K hK => ?_))
    | (refine WD_region (fun K hK => ?_))
    | ((first | refine RunD_o rfl rfl rfl rfl rfl (fun X hX => ?_) | refine RunD_s rfl rfl rfl rfl (fun X hX => ?_) | (refine RunD_oT rfl rfl rfl rfl rfl rfl rfl ?hb (fun X hX => ?_); (case hb => simp (disch := first | omega | (simp; done) | fail) [wrap64c, if_pos, if_neg, lwms, gb0, clms, cz0, ntqx0, csqx0, gx0] <;> omega))); (try dsimp only); simp (disch := first | omega | (simp; done) | fail) [wrap64c, if_pos, if_neg, lwms, gb0, clms, cz0, ntqx0, csqx0, gx0]; refine hX _ _ ?_; clear hX X)
    | (refine RunD_oF rfl rfl rfl rfl rfl ?hb ?_; (case hb => simp (disch := first | omega | (simp; done) | fail) [wrap64c, if_pos, if_neg, lwms, gb0, clms, cz0, ntqx0, csqx0, gx0] <;> omega))
    | ((first | refine RunD_oU (c := #[]) rfl rfl rfl rfl rfl ?hb ?_ | refine PreD_oU (c := #[]) rfl rfl rfl rfl rfl ?hb ?_); (case hb => simp (disch := first | omega | (simp; done) | fail) [wrap64c, if_pos, if_neg, lwms, gb0, clms, cz0, ntqx0, csqx0, gx0]; rfl))
    | ((first | refine PreD_o rfl rfl rfl rfl rfl (fun X hX => ?_) | (refine PreD_oT rfl rfl rfl rfl rfl rfl rfl ?hb (fun X hX => ?_); (case hb => simp (disch := first | omega | (simp; done) | fail) [wrap64c, if_pos, if_neg, lwms, gb0, clms, cz0, ntqx0, csqx0, gx0] <;> omega))); (try dsimp only); simp (disch := first | omega | (simp; done) | fail) [wrap64c, if_pos, if_neg, lwms, gb0, clms, cz0, ntqx0, csqx0, gx0]; refine hX _ _ ?hadd ?_; (case hadd => simp; done); clear hX X)
    | (refine PreD_oF rfl rfl rfl rfl rfl ?hb ?_; (case hb => simp (disch := first | omega | (simp; done) | fail) [wrap64c, if_pos, if_neg, lwms, gb0, clms, cz0, ntqx0, csqx0, gx0] <;> omega))
    | (refine RunD_nil ?_; refine hK _ _ ?_; clear hK K)
    | (refine RunD_nil ?_)
    | (refine PreD_nil ?_; refine hK _ _ ?_; clear hK K)
    | (refine WD_skip ?_)
    | (refine WD_exit ?_)
    | (refine WD_ret ?_)
    | (refine WD_true rfl ?hb ?_; (case hb => simp (disch := first | omega | (simp; done) | fail) [wrap64c, if_pos, if_neg, lwms, gb0, clms, cz0, ntqx0, csqx0, gx0] <;> omega))
    | (refine WD_false rfl ?hb ?_; (case hb => simp (disch := first | omega | (simp; done) | fail) [wrap64c, if_pos, if_neg, lwms, gb0, clms, cz0, ntqx0, csqx0, gx0] <;> omega))
    | (refine hK.1 _ _ ?_; clear hK K)
    | (refine hK.2.1 _ _ ?_; clear hK K)
    | (refine hK.2 _ _ _ ?hne ?_; (case hne => simp; done); clear hK K)
    | (refine hK.2.2 _ _ _ ?hne ?_; (case hne => simp; done); clear hK K))
  refine RunD_c rfl rfl rfl rfl (by simp) (by simp) ?ha (eqIntS_ok h7 _ _ _ _ (hug0.ints) (huw0.ints)) ?_
  (case ha => simp (disch := first | omega | (simp; done) | fail) [wrap64c, if_pos, if_neg, lwms, gb0, clms, cz0, ntqx0, csqx0, gx0])
  repeat (first
    | (refine WD_block (fun K hK => ?_))
    | (refine WD_seq (fun K hK => ?_))
    | (refine WD_region (fun K hK => ?_))
    | ((first | refine RunD_o rfl rfl rfl rfl rfl (fun X hX => ?_) | refine RunD_s rfl rfl rfl rfl (fun X hX => ?_) | (refine RunD_oT rfl rfl rfl rfl rfl rfl rfl ?hb (fun X hX => ?_); (case hb => simp (disch := first | omega | (simp; done) | fail) [wrap64c, if_pos, if_neg, lwms, gb0, clms, cz0, ntqx0, csqx0, gx0] <;> omega))); (try dsimp only); simp (disch := first | omega | (simp; done) | fail) [wrap64c, if_pos, if_neg, lwms, gb0, clms, cz0, ntqx0, csqx0, gx0]; refine hX _ _ ?_; clear hX X)
    | (refine RunD_oF rfl rfl rfl rfl rfl ?hb ?_; (case hb => simp (disch := first | omega | (simp; done) | fail) [wrap64c, if_pos, if_neg, lwms, gb0, clms, cz0, ntqx0, csqx0, gx0] <;> omega))
    | ((first | refine RunD_oU (c := #[]) rfl rfl rfl rfl rfl ?hb ?_ | refine PreD_oU (c := #[]) rfl rfl rfl rfl rfl ?hb ?_); (case hb => simp (disch := first | omega | (simp; done) | fail) [wrap64c, if_pos, if_neg, lwms, gb0, clms, cz0, ntqx0, csqx0, gx0]; rfl))
    | ((first | refine PreD_o rfl rfl rfl rfl rfl (fun X hX => ?_) | (refine PreD_oT rfl rfl rfl rfl rfl rfl rfl ?hb (fun X hX => ?_); (case hb => simp (disch := first | omega | (simp; done) | fail) [wrap64c, if_pos, if_neg, lwms, gb0, clms, cz0, ntqx0, csqx0, gx0] <;> omega))); (try dsimp only); simp (disch := first | omega | (simp; done) | fail) [wrap64c, if_pos, if_neg, lwms, gb0, clms, cz0, ntqx0, csqx0, gx0]; refine hX _ _ ?hadd ?_; (case hadd => simp; done); clear hX X)
    | (refine PreD_oF rfl rfl rfl rfl rfl ?hb ?_; (case hb => simp (disch := first | omega | (simp; done) | fail) [wrap64c, if_pos, if_neg, lwms, gb0, clms, cz0, ntqx0, csqx0, gx0] <;> omega))
    | (refine RunD_nil ?_; refine hK _ _ ?_; clear hK K)
    | (refine RunD_nil ?_)
    | (refine PreD_nil ?_; refine hK _ _ ?_; clear hK K)
    | (refine WD_skip ?_)
    | (refine WD_exit ?_)
    | (refine WD_ret ?_)
    | (refine WD_true rfl ?hb ?_; (case hb => simp (disch := first | omega | (simp; done) | fail) [wrap64c, if_pos, if_neg, lwms, gb0, clms, cz0, ntqx0, csqx0, gx0] <;> omega))
    | (refine WD_false rfl ?hb ?_; (case hb => simp (disch := first | omega | (simp; done) | fail) [wrap64c, if_pos, if_neg, lwms, gb0, clms, cz0, ntqx0, csqx0, gx0] <;> omega))
    | (refine hK.1 _ _ ?_; clear hK K)
    | (refine hK.2.1 _ _ ?_; clear hK K)
    | (refine hK.2 _ _ _ ?hne ?_; (case hne => simp; done); clear hK K)
    | (refine hK.2.2 _ _ _ ?hne ?_; (case hne => simp; done); clear hK K))
  refine WD_draw 3 rfl (by kernel_rfl) (fun K hK => ?_)
  repeat (first
    | (refine WD_block (fun K hK => ?_))
    | (refine WD_seq (fun K hK => ?_))
    | (refine WD_region (fun K hK => ?_))
    | ((first | refine RunD_o rfl rfl rfl rfl rfl (fun X hX => ?_) | refine RunD_s rfl rfl rfl rfl (fun X hX => ?_) | (refine RunD_oT rfl rfl rfl rfl rfl rfl rfl ?hb (fun X hX => ?_); (case hb => simp (disch := first | omega | (simp; done) | fail) [wrap64c, if_pos, if_neg, lwms, gb0, clms, cz0, ntqx0, csqx0, gx0] <;> omega))); (try dsimp only); simp (disch := first | omega | (simp; done) | fail) [wrap64c, if_pos, if_neg, lwms, gb0, clms, cz0, ntqx0, csqx0, gx0]; refine hX _ _ ?_; clear hX X)
    | (refine RunD_oF rfl rfl rfl rfl rfl ?hb ?_; (case hb => simp (disch := first | omega | (simp; done) | fail) [wrap64c, if_pos, if_neg, lwms, gb0, clms, cz0, ntqx0, csqx0, gx0] <;> omega))
    | ((first | refine RunD_oU (c := #[]) rfl rfl rfl rfl rfl ?hb ?_ | refine PreD_oU (c := #[]) rfl rfl rfl rfl rfl ?hb ?_); (case hb => simp (disch := first | omega | (simp; done) | fail) [wrap64c, if_pos, if_neg, lwms, gb0, clms, cz0, ntqx0, csqx0, gx0]; rfl))
    | ((first | refine PreD_o rfl rfl rfl rfl rfl (fun X hX => ?_) | (refine PreD_oT rfl rfl rfl rfl rfl rfl rfl ?hb (fun X hX => ?_); (case hb => simp (disch := first | omega | (simp; done) | fail) [wrap64c, if_pos, if_neg, lwms, gb0, clms, cz0, ntqx0, csqx0, gx0] <;> omega))); (try dsimp only); simp (disch := first | omega | (simp; done) | fail) [wrap64c, if_pos, if_neg, lwms, gb0, clms, cz0, ntqx0, csqx0, gx0]; refine hX _ _ ?hadd ?_; (case hadd => simp; done); clear hX X)
    | (refine PreD_oF rfl rfl rfl rfl rfl ?hb ?_; (case hb => simp (disch := first | omega | (simp; done) | fail) [wrap64c, if_pos, if_neg, lwms, gb0, clms, cz0, ntqx0, csqx0, gx0] <;> omega))
    | (refine RunD_nil ?_; refine hK _ _ ?_; clear hK K)
    | (refine RunD_nil ?_)
    | (refine PreD_nil ?_; refine hK _ _ ?_; clear hK K)
    | (refine WD_skip ?_)
    | (refine WD_exit ?_)
    | (refine WD_ret ?_)
    | (refine WD_true rfl ?hb ?_; (case hb => simp (disch := first | omega | (simp; done) | fail) [wrap64c, if_pos, if_neg, lwms, gb0, clms, cz0, ntqx0, csqx0, gx0] <;> omega))
    | (refine WD_false rfl ?hb ?_; (case hb => simp (disch := first | omega | (simp; done) | fail) [wrap64c, if_pos, if_neg, lwms, gb0, clms, cz0, ntqx0, csqx0, gx0] <;> omega))
    | (refine hK.1 _ _ ?_; clear hK K)
    | (refine hK.2.1 _ _ ?_; clear hK K)
    | (refine hK.2 _ _ _ ?hne ?_; (case hne => simp; done); clear hK K)
    | (refine hK.2.2 _ _ _ ?hne ?_; (case hne => simp; done); clear hK K))
  obtain ⟨ty0, h8, hcy0, hay0, hiy0⟩ := toSpace_ok h7 _ N X (hv0.keep K7) l1X
  refine PreD_c rfl rfl rfl rfl (by simp) (by simp) ?ha (hcy0) ?hadd ?_
  (case ha => simp (disch := first | omega | (simp; done) | fail) [wrap64c, if_pos, if_neg, lwms, gb0, clms, cz0, ntqx0, csqx0, gx0])
  (case hadd => first | assumption | exact adds_self _ | (simp; done))
  have n8 := hay0.1.1
  have K8 := K7.trans hay0.1
  have gb0 : h8.get h.next = .cells [.int .i64 N, b] true true 1 := by rw [hay0.1.2 _ (by omega)]; exact gb0
  have gx0 : h8.get h4.next = .cells [.int .i64 (N), qx0] true true 1 := by rw [hay0.1.2 _ (by omega)]; exact gx0
  have his0 := his0.keep hay0.1
  have his1 := his1.keep hay0.1
  have huw0 := huw0.keep hay0.1
  have hix0 := hix0.keep hay0.1
  have hix1 := hix1.keep hay0.1
  have hug0 := hug0.keep hay0.1
  repeat (first
    | (refine WD_block (fun K hK => ?_))
    | (refine WD_seq (fun K hK => ?_))
    | (refine WD_region (fun K hK => ?_))
    | ((first | refine RunD_o rfl rfl rfl rfl rfl (fun X hX => ?_) | refine RunD_s rfl rfl rfl rfl (fun X hX => ?_) | (refine RunD_oT rfl rfl rfl rfl rfl rfl rfl ?hb (fun X hX => ?_); (case hb => simp (disch := first | omega | (simp; done) | fail) [wrap64c, if_pos, if_neg, lwms, gb0, clms, cz0, ntqx0, csqx0, gx0] <;> omega))); (try dsimp only); simp (disch := first | omega | (simp; done) | fail) [wrap64c, if_pos, if_neg, lwms, gb0, clms, cz0, ntqx0, csqx0, gx0]; refine hX _ _ ?_; clear hX X)
    | (refine RunD_oF rfl rfl rfl rfl rfl ?hb ?_; (case hb => simp (disch := first | omega | (simp; done) | fail) [wrap64c, if_pos, if_neg, lwms, gb0, clms, cz0, ntqx0, csqx0, gx0] <;> omega))
    | ((first | refine RunD_oU (c := #[]) rfl rfl rfl rfl rfl ?hb ?_ | refine PreD_oU (c := #[]) rfl rfl rfl rfl rfl ?hb ?_); (case hb => simp (disch := first | omega | (simp; done) | fail) [wrap64c, if_pos, if_neg, lwms, gb0, clms, cz0, ntqx0, csqx0, gx0]; rfl))
    | ((first | refine PreD_o rfl rfl rfl rfl rfl (fun X hX => ?_) | (refine PreD_oT rfl rfl rfl rfl rfl rfl rfl ?hb (fun X hX => ?_); (case hb => simp (disch := first | omega | (simp; done) | fail) [wrap64c, if_pos, if_neg, lwms, gb0, clms, cz0, ntqx0, csqx0, gx0] <;> omega))); (try dsimp only); simp (disch := first | omega | (simp; done) | fail) [wrap64c, if_pos, if_neg, lwms, gb0, clms, cz0, ntqx0, csqx0, gx0]; refine hX _ _ ?hadd ?_; (case hadd => simp; done); clear hX X)
    | (refine PreD_oF rfl rfl rfl rfl rfl ?hb ?_; (case hb => simp (disch := first | omega | (simp; done) | fail) [wrap64c, if_pos, if_neg, lwms, gb0, clms, cz0, ntqx0, csqx0, gx0] <;> omega))
    | (refine RunD_nil ?_; refine hK _ _ ?_; clear hK K)
    | (refine RunD_nil ?_)
    | (refine PreD_nil ?_; refine hK _ _ ?_; clear hK K)
    | (refine WD_skip ?_)
    | (refine WD_exit ?_)
    | (refine WD_ret ?_)
    | (refine WD_true rfl ?hb ?_; (case hb => simp (disch := first | omega | (simp; done) | fail) [wrap64c, if_pos, if_neg, lwms, gb0, clms, cz0, ntqx0, csqx0, gx0] <;> omega))
    | (refine WD_false rfl ?hb ?_; (case hb => simp (disch := first | omega | (simp; done) | fail) [wrap64c, if_pos, if_neg, lwms, gb0, clms, cz0, ntqx0, csqx0, gx0] <;> omega))
    | (refine hK.1 _ _ ?_; clear hK K)
    | (refine hK.2.1 _ _ ?_; clear hK K)
    | (refine hK.2 _ _ _ ?hne ?_; (case hne => simp; done); clear hK K)
    | (refine hK.2.2 _ _ _ ?hne ?_; (case hne => simp; done); clear hK K))
  refine RunD_c rfl rfl rfl rfl (by simp) (by simp) ?ha (eqSpace_ok h8 _ _ _ _ _ _ hix0.space hiy0.space) ?_
  (case ha => simp (disch := first | omega | (simp; done) | fail) [wrap64c, if_pos, if_neg, lwms, gb0, clms, cz0, ntqx0, csqx0, gx0])
  repeat (first
    | (refine WD_block (fun K hK => ?_))
    | (refine WD_seq (fun K hK => ?_))
    | (refine WD_region (fun K hK => ?_))
    | ((first | refine RunD_o rfl rfl rfl rfl rfl (fun X hX => ?_) | refine RunD_s rfl rfl rfl rfl (fun X hX => ?_) | (refine RunD_oT rfl rfl rfl rfl rfl rfl rfl ?hb (fun X hX => ?_); (case hb => simp (disch := first | omega | (simp; done) | fail) [wrap64c, if_pos, if_neg, lwms, gb0, clms, cz0, ntqx0, csqx0, gx0] <;> omega))); (try dsimp only); simp (disch := first | omega | (simp; done) | fail) [wrap64c, if_pos, if_neg, lwms, gb0, clms, cz0, ntqx0, csqx0, gx0]; refine hX _ _ ?_; clear hX X)
    | (refine RunD_oF rfl rfl rfl rfl rfl ?hb ?_; (case hb => simp (disch := first | omega | (simp; done) | fail) [wrap64c, if_pos, if_neg, lwms, gb0, clms, cz0, ntqx0, csqx0, gx0] <;> omega))
    | ((first | refine RunD_oU (c := #[]) rfl rfl rfl rfl rfl ?hb ?_ | refine PreD_oU (c := #[]) rfl rfl rfl rfl rfl ?hb ?_); (case hb => simp (disch := first | omega | (simp; done) | fail) [wrap64c, if_pos, if_neg, lwms, gb0, clms, cz0, ntqx0, csqx0, gx0]; rfl))
    | ((first | refine PreD_o rfl rfl rfl rfl rfl (fun X hX => ?_) | (refine PreD_oT rfl rfl rfl rfl rfl rfl rfl ?hb (fun X hX => ?_); (case hb => simp (disch := first | omega | (simp; done) | fail) [wrap64c, if_pos, if_neg, lwms, gb0, clms, cz0, ntqx0, csqx0, gx0] <;> omega))); (try dsimp only); simp (disch := first | omega | (simp; done) | fail) [wrap64c, if_pos, if_neg, lwms, gb0, clms, cz0, ntqx0, csqx0, gx0]; refine hX _ _ ?hadd ?_; (case hadd => simp; done); clear hX X)
    | (refine PreD_oF rfl rfl rfl rfl rfl ?hb ?_; (case hb => simp (disch := first | omega | (simp; done) | fail) [wrap64c, if_pos, if_neg, lwms, gb0, clms, cz0, ntqx0, csqx0, gx0] <;> omega))
    | (refine RunD_nil ?_; refine hK _ _ ?_; clear hK K)
    | (refine RunD_nil ?_)
    | (refine PreD_nil ?_; refine hK _ _ ?_; clear hK K)
    | (refine WD_skip ?_)
    | (refine WD_exit ?_)
    | (refine WD_ret ?_)
    | (refine WD_true rfl ?hb ?_; (case hb => simp (disch := first | omega | (simp; done) | fail) [wrap64c, if_pos, if_neg, lwms, gb0, clms, cz0, ntqx0, csqx0, gx0] <;> omega))
    | (refine WD_false rfl ?hb ?_; (case hb => simp (disch := first | omega | (simp; done) | fail) [wrap64c, if_pos, if_neg, lwms, gb0, clms, cz0, ntqx0, csqx0, gx0] <;> omega))
    | (refine hK.1 _ _ ?_; clear hK K)
    | (refine hK.2.1 _ _ ?_; clear hK K)
    | (refine hK.2 _ _ _ ?hne ?_; (case hne => simp; done); clear hK K)
    | (refine hK.2.2 _ _ _ ?hne ?_; (case hne => simp; done); clear hK K))
  obtain ⟨ty1, h9, hcy1, hay1, hiy1⟩ := toIntS_ok h8 w ms (hw0.keep K8) l1ms
  refine RunD_c rfl rfl rfl rfl (by simp) (by simp) ?ha (hcy1) ?_
  (case ha => simp (disch := first | omega | (simp; done) | fail) [wrap64c, if_pos, if_neg, lwms, gb0, clms, cz0, ntqx0, csqx0, gx0])
  have n9 := hay1.1.1
  have K9 := K8.trans hay1.1
  have gb0 : h9.get h.next = .cells [.int .i64 N, b] true true 1 := by rw [hay1.1.2 _ (by omega)]; exact gb0
  have gx0 : h9.get h4.next = .cells [.int .i64 (N), qx0] true true 1 := by rw [hay1.1.2 _ (by omega)]; exact gx0
  have his0 := his0.keep hay1.1
  have his1 := his1.keep hay1.1
  have huw0 := huw0.keep hay1.1
  have hix0 := hix0.keep hay1.1
  have hix1 := hix1.keep hay1.1
  have hug0 := hug0.keep hay1.1
  repeat (first
    | (refine WD_block (fun K hK => ?_))
    | (refine WD_seq (fun K hK => ?_))
    | (refine WD_region (fun K hK => ?_))
    | ((first | refine RunD_o rfl rfl rfl rfl rfl (fun X hX => ?_) | refine RunD_s rfl rfl rfl rfl (fun X hX => ?_) | (refine RunD_oT rfl rfl rfl rfl rfl rfl rfl ?hb (fun X hX => ?_); (case hb => simp (disch := first | omega | (simp; done) | fail) [wrap64c, if_pos, if_neg, lwms, gb0, clms, cz0, ntqx0, csqx0, gx0] <;> omega))); (try dsimp only); simp (disch := first | omega | (simp; done) | fail) [wrap64c, if_pos, if_neg, lwms, gb0, clms, cz0, ntqx0, csqx0, gx0]; refine hX _ _ ?_; clear hX X)
    | (refine RunD_oF rfl rfl rfl rfl rfl ?hb ?_; (case hb => simp (disch := first | omega | (simp; done) | fail) [wrap64c, if_pos, if_neg, lwms, gb0, clms, cz0, ntqx0, csqx0, gx0] <;> omega))
    | ((first | refine RunD_oU (c := #[]) rfl rfl rfl rfl rfl ?hb ?_ | refine PreD_oU (c := #[]) rfl rfl rfl rfl rfl ?hb ?_); (case hb => simp (disch := first | omega | (simp; done) | fail) [wrap64c, if_pos, if_neg, lwms, gb0, clms, cz0, ntqx0, csqx0, gx0]; rfl))
    | ((first | refine PreD_o rfl rfl rfl rfl rfl (fun X hX => ?_) | (refine PreD_oT rfl rfl rfl rfl rfl rfl rfl ?hb (fun X hX => ?_); (case hb => simp (disch := first | omega | (simp; done) | fail) [wrap64c, if_pos, if_neg, lwms, gb0, clms, cz0, ntqx0, csqx0, gx0] <;> omega))); (try dsimp only); simp (disch := first | omega | (simp; done) | fail) [wrap64c, if_pos, if_neg, lwms, gb0, clms, cz0, ntqx0, csqx0, gx0]; refine hX _ _ ?hadd ?_; (case hadd => simp; done); clear hX X)
    | (refine PreD_oF rfl rfl rfl rfl rfl ?hb ?_; (case hb => simp (disch := first | omega | (simp; done) | fail) [wrap64c, if_pos, if_neg, lwms, gb0, clms, cz0, ntqx0, csqx0, gx0] <;> omega))
    | (refine RunD_nil ?_; refine hK _ _ ?_; clear hK K)
    | (refine RunD_nil ?_)
    | (refine PreD_nil ?_; refine hK _ _ ?_; clear hK K)
    | (refine WD_skip ?_)
    | (refine WD_exit ?_)
    | (refine WD_ret ?_)
    | (refine WD_true rfl ?hb ?_; (case hb => simp (disch := first | omega | (simp; done) | fail) [wrap64c, if_pos, if_neg, lwms, gb0, clms, cz0, ntqx0, csqx0, gx0] <;> omega))
    | (refine WD_false rfl ?hb ?_; (case hb => simp (disch := first | omega | (simp; done) | fail) [wrap64c, if_pos, if_neg, lwms, gb0, clms, cz0, ntqx0, csqx0, gx0] <;> omega))
    | (refine hK.1 _ _ ?_; clear hK K)
    | (refine hK.2.1 _ _ ?_; clear hK K)
    | (refine hK.2 _ _ _ ?hne ?_; (case hne => simp; done); clear hK K)
    | (refine hK.2.2 _ _ _ ?hne ?_; (case hne => simp; done); clear hK K))
  refine RunD_c rfl rfl rfl rfl (by simp) (by simp) ?ha (eqIntS_ok h9 _ _ _ _ hix1.ints hiy1.ints) ?_
  (case ha => simp (disch := first | omega | (simp; done) | fail) [wrap64c, if_pos, if_neg, lwms, gb0, clms, cz0, ntqx0, csqx0, gx0])
  repeat (first
    | (refine WD_block (fun K hK => ?_))
    | (refine WD_seq (fun K hK => ?_))
    | (refine WD_region (fun K hK => ?_))
    | ((first | refine RunD_o rfl rfl rfl rfl rfl (fun X hX => ?_) | refine RunD_s rfl rfl rfl rfl (fun X hX => ?_) | (refine RunD_oT rfl rfl rfl rfl rfl rfl rfl ?hb (fun X hX => ?_); (case hb => simp (disch := first | omega | (simp; done) | fail) [wrap64c, if_pos, if_neg, lwms, gb0, clms, cz0, ntqx0, csqx0, gx0] <;> omega))); (try dsimp only); simp (disch := first | omega | (simp; done) | fail) [wrap64c, if_pos, if_neg, lwms, gb0, clms, cz0, ntqx0, csqx0, gx0]; refine hX _ _ ?_; clear hX X)
    | (refine RunD_oF rfl rfl rfl rfl rfl ?hb ?_; (case hb => simp (disch := first | omega | (simp; done) | fail) [wrap64c, if_pos, if_neg, lwms, gb0, clms, cz0, ntqx0, csqx0, gx0] <;> omega))
    | ((first | refine RunD_oU (c := #[]) rfl rfl rfl rfl rfl ?hb ?_ | refine PreD_oU (c := #[]) rfl rfl rfl rfl rfl ?hb ?_); (case hb => simp (disch := first | omega | (simp; done) | fail) [wrap64c, if_pos, if_neg, lwms, gb0, clms, cz0, ntqx0, csqx0, gx0]; rfl))
    | ((first | refine PreD_o rfl rfl rfl rfl rfl (fun X hX => ?_) | (refine PreD_oT rfl rfl rfl rfl rfl rfl rfl ?hb (fun X hX => ?_); (case hb => simp (disch := first | omega | (simp; done) | fail) [wrap64c, if_pos, if_neg, lwms, gb0, clms, cz0, ntqx0, csqx0, gx0] <;> omega))); (try dsimp only); simp (disch := first | omega | (simp; done) | fail) [wrap64c, if_pos, if_neg, lwms, gb0, clms, cz0, ntqx0, csqx0, gx0]; refine hX _ _ ?hadd ?_; (case hadd => simp; done); clear hX X)
    | (refine PreD_oF rfl rfl rfl rfl rfl ?hb ?_; (case hb => simp (disch := first | omega | (simp; done) | fail) [wrap64c, if_pos, if_neg, lwms, gb0, clms, cz0, ntqx0, csqx0, gx0] <;> omega))
    | (refine RunD_nil ?_; refine hK _ _ ?_; clear hK K)
    | (refine RunD_nil ?_)
    | (refine PreD_nil ?_; refine hK _ _ ?_; clear hK K)
    | (refine WD_skip ?_)
    | (refine WD_exit ?_)
    | (refine WD_ret ?_)
    | (refine WD_true rfl ?hb ?_; (case hb => simp (disch := first | omega | (simp; done) | fail) [wrap64c, if_pos, if_neg, lwms, gb0, clms, cz0, ntqx0, csqx0, gx0] <;> omega))
    | (refine WD_false rfl ?hb ?_; (case hb => simp (disch := first | omega | (simp; done) | fail) [wrap64c, if_pos, if_neg, lwms, gb0, clms, cz0, ntqx0, csqx0, gx0] <;> omega))
    | (refine hK.1 _ _ ?_; clear hK K)
    | (refine hK.2.1 _ _ ?_; clear hK K)
    | (refine hK.2 _ _ _ ?hne ?_; (case hne => simp; done); clear hK K)
    | (refine hK.2.2 _ _ _ ?hne ?_; (case hne => simp; done); clear hK K))
  obtain ⟨_, h10, hcm0, rfl, hum0, him0⟩ := markSpace_ok (Btw h3.next h4.next) h9 _ N X (1) hix0 (by omega) (by omega) (by omega)
  refine RunD_c rfl rfl rfl rfl (by simp) (by simp) ?ha (hcm0) ?_
  (case ha => simp (disch := first | omega | (simp; done) | fail) [wrap64c, if_pos, if_neg, lwms, gb0, clms, cz0, ntqx0, csqx0, gx0])
  have n10 := hum0.1
  have K10 := hum0.keeps K9 fun o ho => by have := ho.1; omega
  have gb0 : h10.get h.next = .cells [.int .i64 N, b] true true 1 := by rw [hum0.2 _ (by omega) (by unfold Btw; omega)]; exact gb0
  have gx0 : h10.get h4.next = .cells [.int .i64 (N), qx0] true true 1 := by rw [hum0.2 _ (by omega) (by unfold Btw; omega)]; exact gx0
  have his0 := his0.same (hum0.same fun x hx hx' => by unfold Btw at hx hx'; omega)
  have his1 := his1.same (hum0.same fun x hx hx' => by unfold Btw at hx hx'; omega)
  have huw0 := huw0.same (hum0.same fun x hx hx' => by unfold Btw at hx hx'; omega)
  have hix1 := hix1.same (hum0.same fun x hx hx' => by unfold Btw at hx hx'; omega)
  have hug0 := hug0.same (hum0.same fun x hx hx' => by unfold Btw at hx hx'; omega)
  repeat (first
    | (refine WD_block (fun K hK => ?_))
    | (refine WD_seq (fun K hK => ?_))
    | (refine WD_region (fun K hK => ?_))
    | ((first | refine RunD_o rfl rfl rfl rfl rfl (fun X hX => ?_) | refine RunD_s rfl rfl rfl rfl (fun X hX => ?_) | (refine RunD_oT rfl rfl rfl rfl rfl rfl rfl ?hb (fun X hX => ?_); (case hb => simp (disch := first | omega | (simp; done) | fail) [wrap64c, if_pos, if_neg, lwms, gb0, clms, cz0, ntqx0, csqx0, gx0] <;> omega))); (try dsimp only); simp (disch := first | omega | (simp; done) | fail) [wrap64c, if_pos, if_neg, lwms, gb0, clms, cz0, ntqx0, csqx0, gx0]; refine hX _ _ ?_; clear hX X)
    | (refine RunD_oF rfl rfl rfl rfl rfl ?hb ?_; (case hb => simp (disch := first | omega | (simp; done) | fail) [wrap64c, if_pos, if_neg, lwms, gb0, clms, cz0, ntqx0, csqx0, gx0] <;> omega))
    | ((first | refine RunD_oU (c := #[]) rfl rfl rfl rfl rfl ?hb ?_ | refine PreD_oU (c := #[]) rfl rfl rfl rfl rfl ?hb ?_); (case hb => simp (disch := first | omega | (simp; done) | fail) [wrap64c, if_pos, if_neg, lwms, gb0, clms, cz0, ntqx0, csqx0, gx0]; rfl))
    | ((first | refine PreD_o rfl rfl rfl rfl rfl (fun X hX => ?_) | (refine PreD_oT rfl rfl rfl rfl rfl rfl rfl ?hb (fun X hX => ?_); (case hb => simp (disch := first | omega | (simp; done) | fail) [wrap64c, if_pos, if_neg, lwms, gb0, clms, cz0, ntqx0, csqx0, gx0] <;> omega))); (try dsimp only); simp (disch := first | omega | (simp; done) | fail) [wrap64c, if_pos, if_neg, lwms, gb0, clms, cz0, ntqx0, csqx0, gx0]; refine hX _ _ ?hadd ?_; (case hadd => simp; done); clear hX X)
    | (refine PreD_oF rfl rfl rfl rfl rfl ?hb ?_; (case hb => simp (disch := first | omega | (simp; done) | fail) [wrap64c, if_pos, if_neg, lwms, gb0, clms, cz0, ntqx0, csqx0, gx0] <;> omega))
    | (refine RunD_nil ?_; refine hK _ _ ?_; clear hK K)
    | (refine RunD_nil ?_)
    | (refine PreD_nil ?_; refine hK _ _ ?_; clear hK K)
    | (refine WD_skip ?_)
    | (refine WD_exit ?_)
    | (refine WD_ret ?_)
    | (refine WD_true rfl ?hb ?_; (case hb => simp (disch := first | omega | (simp; done) | fail) [wrap64c, if_pos, if_neg, lwms, gb0, clms, cz0, ntqx0, csqx0, gx0] <;> omega))
    | (refine WD_false rfl ?hb ?_; (case hb => simp (disch := first | omega | (simp; done) | fail) [wrap64c, if_pos, if_neg, lwms, gb0, clms, cz0, ntqx0, csqx0, gx0] <;> omega))
    | (refine hK.1 _ _ ?_; clear hK K)
    | (refine hK.2.1 _ _ ?_; clear hK K)
    | (refine hK.2 _ _ _ ?hne ?_; (case hne => simp; done); clear hK K)
    | (refine hK.2.2 _ _ _ ?hne ?_; (case hne => simp; done); clear hK K))
  obtain ⟨_, h11, hcm1, rfl, hnm1, hum1, him1⟩ := markIntS_ok (Btw h5.next h6.next) h10 _ ms (1 + (X.length : Int)) hix1 (by omega) (by omega) (by omega)
  refine RunD_c rfl rfl rfl rfl (by simp) (by simp) ?ha (hcm1) ?_
  (case ha => simp (disch := first | omega | (simp; done) | fail) [wrap64c, if_pos, if_neg, lwms, gb0, clms, cz0, ntqx0, csqx0, gx0])
  have n11 := hum1.1
  have K11 := hum1.keeps K10 fun o ho => by have := ho.1; omega
  have gb0 : h11.get h.next = .cells [.int .i64 N, b] true true 1 := by rw [hum1.2 _ (by omega) (by unfold Btw; omega)]; exact gb0
  have gx0 : h11.get h4.next = .cells [.int .i64 (N), qx0] true true 1 := by rw [hum1.2 _ (by omega) (by unfold Btw; omega)]; exact gx0
  have his0 := his0.same (hum1.same fun x hx hx' => by unfold Btw at hx hx'; omega)
  have his1 := his1.same (hum1.same fun x hx hx' => by unfold Btw at hx hx'; omega)
  have huw0 := huw0.same (hum1.same fun x hx hx' => by unfold Btw at hx hx'; omega)
  have hug0 := hug0.same (hum1.same fun x hx hx' => by unfold Btw at hx hx'; omega)
  repeat (first
    | (refine WD_block (fun K hK => ?_))
    | (refine WD_seq (fun K hK => ?_))
    | (refine WD_region (fun K hK => ?_))
    | ((first | refine RunD_o rfl rfl rfl rfl rfl (fun X hX => ?_) | refine RunD_s rfl rfl rfl rfl (fun X hX => ?_) | (refine RunD_oT rfl rfl rfl rfl rfl rfl rfl ?hb (fun X hX => ?_); (case hb => simp (disch := first | omega | (simp; done) | fail) [wrap64c, if_pos, if_neg, lwms, gb0, clms, cz0, ntqx0, csqx0, gx0] <;> omega))); (try dsimp only); simp (disch := first | omega | (simp; done) | fail) [wrap64c, if_pos, if_neg, lwms, gb0, clms, cz0, ntqx0, csqx0, gx0]; refine hX _ _ ?_; clear hX X)
    | (refine RunD_oF rfl rfl rfl rfl rfl ?hb ?_; (case hb => simp (disch := first | omega | (simp; done) | fail) [wrap64c, if_pos, if_neg, lwms, gb0, clms, cz0, ntqx0, csqx0, gx0] <;> omega))
    | ((first | refine RunD_oU (c := #[]) rfl rfl rfl rfl rfl ?hb ?_ | refine PreD_oU (c := #[]) rfl rfl rfl rfl rfl ?hb ?_); (case hb => simp (disch := first | omega | (simp; done) | fail) [wrap64c, if_pos, if_neg, lwms, gb0, clms, cz0, ntqx0, csqx0, gx0]; rfl))
    | ((first | refine PreD_o rfl rfl rfl rfl rfl (fun X hX => ?_) | (refine PreD_oT rfl rfl rfl rfl rfl rfl rfl ?hb (fun X hX => ?_); (case hb => simp (disch := first | omega | (simp; done) | fail) [wrap64c, if_pos, if_neg, lwms, gb0, clms, cz0, ntqx0, csqx0, gx0] <;> omega))); (try dsimp only); simp (disch := first | omega | (simp; done) | fail) [wrap64c, if_pos, if_neg, lwms, gb0, clms, cz0, ntqx0, csqx0, gx0]; refine hX _ _ ?hadd ?_; (case hadd => simp; done); clear hX X)
    | (refine PreD_oF rfl rfl rfl rfl rfl ?hb ?_; (case hb => simp (disch := first | omega | (simp; done) | fail) [wrap64c, if_pos, if_neg, lwms, gb0, clms, cz0, ntqx0, csqx0, gx0] <;> omega))
    | (refine RunD_nil ?_; refine hK _ _ ?_; clear hK K)
    | (refine RunD_nil ?_)
    | (refine PreD_nil ?_; refine hK _ _ ?_; clear hK K)
    | (refine WD_skip ?_)
    | (refine WD_exit ?_)
    | (refine WD_ret ?_)
    | (refine WD_true rfl ?hb ?_; (case hb => simp (disch := first | omega | (simp; done) | fail) [wrap64c, if_pos, if_neg, lwms, gb0, clms, cz0, ntqx0, csqx0, gx0] <;> omega))
    | (refine WD_false rfl ?hb ?_; (case hb => simp (disch := first | omega | (simp; done) | fail) [wrap64c, if_pos, if_neg, lwms, gb0, clms, cz0, ntqx0, csqx0, gx0] <;> omega))
    | (refine hK.1 _ _ ?_; clear hK K)
    | (refine hK.2.1 _ _ ?_; clear hK K)
    | (refine hK.2 _ _ _ ?hne ?_; (case hne => simp; done); clear hK K)
    | (refine hK.2.2 _ _ _ ?hne ?_; (case hne => simp; done); clear hK K))
  have pk : ¬ (1 + (X.length : Int) + (ms.length : Int) : Int) < 0 := by omega
  repeat (first
    | (refine WD_block (fun K hK => ?_))
    | (refine WD_seq (fun K hK => ?_))
    | (refine WD_region (fun K hK => ?_))
    | ((first | refine RunD_o rfl rfl rfl rfl rfl (fun X hX => ?_) | refine RunD_s rfl rfl rfl rfl (fun X hX => ?_) | (refine RunD_oT rfl rfl rfl rfl rfl rfl rfl ?hb (fun X hX => ?_); (case hb => simp (disch := first | omega | (simp; done) | fail) [wrap64c, if_pos, if_neg, lwms, gb0, clms, cz0, ntqx0, csqx0, gx0, pk] <;> omega))); (try dsimp only); simp (disch := first | omega | (simp; done) | fail) [wrap64c, if_pos, if_neg, lwms, gb0, clms, cz0, ntqx0, csqx0, gx0, pk]; refine hX _ _ ?_; clear hX X)
    | (refine RunD_oF rfl rfl rfl rfl rfl ?hb ?_; (case hb => simp (disch := first | omega | (simp; done) | fail) [wrap64c, if_pos, if_neg, lwms, gb0, clms, cz0, ntqx0, csqx0, gx0, pk] <;> omega))
    | ((first | refine RunD_oU (c := #[]) rfl rfl rfl rfl rfl ?hb ?_ | refine PreD_oU (c := #[]) rfl rfl rfl rfl rfl ?hb ?_); (case hb => simp (disch := first | omega | (simp; done) | fail) [wrap64c, if_pos, if_neg, lwms, gb0, clms, cz0, ntqx0, csqx0, gx0, pk]; rfl))
    | ((first | refine PreD_o rfl rfl rfl rfl rfl (fun X hX => ?_) | (refine PreD_oT rfl rfl rfl rfl rfl rfl rfl ?hb (fun X hX => ?_); (case hb => simp (disch := first | omega | (simp; done) | fail) [wrap64c, if_pos, if_neg, lwms, gb0, clms, cz0, ntqx0, csqx0, gx0, pk] <;> omega))); (try dsimp only); simp (disch := first | omega | (simp; done) | fail) [wrap64c, if_pos, if_neg, lwms, gb0, clms, cz0, ntqx0, csqx0, gx0, pk]; refine hX _ _ ?hadd ?_; (case hadd => simp; done); clear hX X)
    | (refine PreD_oF rfl rfl rfl rfl rfl ?hb ?_; (case hb => simp (disch := first | omega | (simp; done) | fail) [wrap64c, if_pos, if_neg, lwms, gb0, clms, cz0, ntqx0, csqx0, gx0, pk] <;> omega))
    | (refine RunD_nil ?_; refine hK _ _ ?_; clear hK K)
    | (refine RunD_nil ?_)
    | (refine PreD_nil ?_; refine hK _ _ ?_; clear hK K)
    | (refine WD_skip ?_)
    | (refine WD_exit ?_)
    | (refine WD_ret ?_)
    | (refine WD_true rfl ?hb ?_; (case hb => simp (disch := first | omega | (simp; done) | fail) [wrap64c, if_pos, if_neg, lwms, gb0, clms, cz0, ntqx0, csqx0, gx0, pk] <;> omega))
    | (refine WD_false rfl ?hb ?_; (case hb => simp (disch := first | omega | (simp; done) | fail) [wrap64c, if_pos, if_neg, lwms, gb0, clms, cz0, ntqx0, csqx0, gx0, pk] <;> omega))
    | (refine hK.1 _ _ ?_; clear hK K)
    | (refine hK.2.1 _ _ ?_; clear hK K)
    | (refine hK.2 _ _ _ ?hne ?_; (case hne => simp; done); clear hK K)
    | (refine hK.2.2 _ _ _ ?hne ?_; (case hne => simp; done); clear hK K))
  refine RunD_cT rfl rfl rfl rfl rfl rfl ?hb (by simp) (by simp) ?ha (eqIntS_ok h11 _ _ _ _ (hug0.ints) (huw0.ints)) ?_
  (case hb => simp (disch := first | omega | (simp; done) | fail) [wrap64c, if_pos, if_neg, lwms, gb0, clms, cz0, ntqx0, csqx0, gx0, pk])
  (case ha => simp (disch := first | omega | (simp; done) | fail) [wrap64c, if_pos, if_neg, lwms, gb0, clms, cz0, ntqx0, csqx0, gx0, pk])
  repeat (first
    | (refine WD_block (fun K hK => ?_))
    | (refine WD_seq (fun K hK => ?_))
    | (refine WD_region (fun K hK => ?_))
    | ((first | refine RunD_o rfl rfl rfl rfl rfl (fun X hX => ?_) | refine RunD_s rfl rfl rfl rfl (fun X hX => ?_) | (refine RunD_oT rfl rfl rfl rfl rfl rfl rfl ?hb (fun X hX => ?_); (case hb => simp (disch := first | omega | (simp; done) | fail) [wrap64c, if_pos, if_neg, lwms, gb0, clms, cz0, ntqx0, csqx0, gx0, pk] <;> omega))); (try dsimp only); simp (disch := first | omega | (simp; done) | fail) [wrap64c, if_pos, if_neg, lwms, gb0, clms, cz0, ntqx0, csqx0, gx0, pk]; refine hX _ _ ?_; clear hX X)
    | (refine RunD_oF rfl rfl rfl rfl rfl ?hb ?_; (case hb => simp (disch := first | omega | (simp; done) | fail) [wrap64c, if_pos, if_neg, lwms, gb0, clms, cz0, ntqx0, csqx0, gx0, pk] <;> omega))
    | ((first | refine RunD_oU (c := #[]) rfl rfl rfl rfl rfl ?hb ?_ | refine PreD_oU (c := #[]) rfl rfl rfl rfl rfl ?hb ?_); (case hb => simp (disch := first | omega | (simp; done) | fail) [wrap64c, if_pos, if_neg, lwms, gb0, clms, cz0, ntqx0, csqx0, gx0, pk]; rfl))
    | ((first | refine PreD_o rfl rfl rfl rfl rfl (fun X hX => ?_) | (refine PreD_oT rfl rfl rfl rfl rfl rfl rfl ?hb (fun X hX => ?_); (case hb => simp (disch := first | omega | (simp; done) | fail) [wrap64c, if_pos, if_neg, lwms, gb0, clms, cz0, ntqx0, csqx0, gx0, pk] <;> omega))); (try dsimp only); simp (disch := first | omega | (simp; done) | fail) [wrap64c, if_pos, if_neg, lwms, gb0, clms, cz0, ntqx0, csqx0, gx0, pk]; refine hX _ _ ?hadd ?_; (case hadd => simp; done); clear hX X)
    | (refine PreD_oF rfl rfl rfl rfl rfl ?hb ?_; (case hb => simp (disch := first | omega | (simp; done) | fail) [wrap64c, if_pos, if_neg, lwms, gb0, clms, cz0, ntqx0, csqx0, gx0, pk] <;> omega))
    | (refine RunD_nil ?_; refine hK _ _ ?_; clear hK K)
    | (refine RunD_nil ?_)
    | (refine PreD_nil ?_; refine hK _ _ ?_; clear hK K)
    | (refine WD_skip ?_)
    | (refine WD_exit ?_)
    | (refine WD_ret ?_)
    | (refine WD_true rfl ?hb ?_; (case hb => simp (disch := first | omega | (simp; done) | fail) [wrap64c, if_pos, if_neg, lwms, gb0, clms, cz0, ntqx0, csqx0, gx0, pk] <;> omega))
    | (refine WD_false rfl ?hb ?_; (case hb => simp (disch := first | omega | (simp; done) | fail) [wrap64c, if_pos, if_neg, lwms, gb0, clms, cz0, ntqx0, csqx0, gx0, pk] <;> omega))
    | (refine hK.1 _ _ ?_; clear hK K)
    | (refine hK.2.1 _ _ ?_; clear hK K)
    | (refine hK.2 _ _ _ ?hne ?_; (case hne => simp; done); clear hK K)
    | (refine hK.2.2 _ _ _ ?hne ?_; (case hne => simp; done); clear hK K))
  obtain ⟨_, h12, hcr0, rfl, hnr0, hur0, hir0⟩ := markIntS_ok (Btw h6.next h7.next) h11 _ (walkR N X ms) (1) hug0 (by omega) (by omega) (by omega)
  refine RunD_c rfl rfl rfl rfl (by simp) (by simp) ?ha (hcr0) ?_
  (case ha => simp (disch := first | omega | (simp; done) | fail) [wrap64c, if_pos, if_neg, lwms, gb0, clms, cz0, ntqx0, csqx0, gx0, pk])
  have n12 := hur0.1
  have K12 := hur0.keeps K11 fun o ho => by have := ho.1; omega
  have gb0 : h12.get h.next = .cells [.int .i64 N, b] true true 1 := by rw [hur0.2 _ (by omega) (by unfold Btw; omega)]; exact gb0
  have gx0 : h12.get h4.next = .cells [.int .i64 (N), qx0] true true 1 := by rw [hur0.2 _ (by omega) (by unfold Btw; omega)]; exact gx0
  have his0 := his0.same (hur0.same fun x hx hx' => by unfold Btw at hx hx'; omega)
  have his1 := his1.same (hur0.same fun x hx hx' => by unfold Btw at hx hx'; omega)
  have huw0 := huw0.same (hur0.same fun x hx hx' => by unfold Btw at hx hx'; omega)
  repeat (first
    | (refine WD_block (fun K hK => ?_))
    | (refine WD_seq (fun K hK => ?_))
    | (refine WD_region (fun K hK => ?_))
    | ((first | refine RunD_o rfl rfl rfl rfl rfl (fun X hX => ?_) | refine RunD_s rfl rfl rfl rfl (fun X hX => ?_) | (refine RunD_oT rfl rfl rfl rfl rfl rfl rfl ?hb (fun X hX => ?_); (case hb => simp (disch := first | omega | (simp; done) | fail) [wrap64c, if_pos, if_neg, lwms, gb0, clms, cz0, ntqx0, csqx0, gx0, pk] <;> omega))); (try dsimp only); simp (disch := first | omega | (simp; done) | fail) [wrap64c, if_pos, if_neg, lwms, gb0, clms, cz0, ntqx0, csqx0, gx0, pk]; refine hX _ _ ?_; clear hX X)
    | (refine RunD_oF rfl rfl rfl rfl rfl ?hb ?_; (case hb => simp (disch := first | omega | (simp; done) | fail) [wrap64c, if_pos, if_neg, lwms, gb0, clms, cz0, ntqx0, csqx0, gx0, pk] <;> omega))
    | ((first | refine RunD_oU (c := #[]) rfl rfl rfl rfl rfl ?hb ?_ | refine PreD_oU (c := #[]) rfl rfl rfl rfl rfl ?hb ?_); (case hb => simp (disch := first | omega | (simp; done) | fail) [wrap64c, if_pos, if_neg, lwms, gb0, clms, cz0, ntqx0, csqx0, gx0, pk]; rfl))
    | ((first | refine PreD_o rfl rfl rfl rfl rfl (fun X hX => ?_) | (refine PreD_oT rfl rfl rfl rfl rfl rfl rfl ?hb (fun X hX => ?_); (case hb => simp (disch := first | omega | (simp; done) | fail) [wrap64c, if_pos, if_neg, lwms, gb0, clms, cz0, ntqx0, csqx0, gx0, pk] <;> omega))); (try dsimp only); simp (disch := first | omega | (simp; done) | fail) [wrap64c, if_pos, if_neg, lwms, gb0, clms, cz0, ntqx0, csqx0, gx0, pk]; refine hX _ _ ?hadd ?_; (case hadd => simp; done); clear hX X)
    | (refine PreD_oF rfl rfl rfl rfl rfl ?hb ?_; (case hb => simp (disch := first | omega | (simp; done) | fail) [wrap64c, if_pos, if_neg, lwms, gb0, clms, cz0, ntqx0, csqx0, gx0, pk] <;> omega))
    | (refine RunD_nil ?_; refine hK _ _ ?_; clear hK K)
    | (refine RunD_nil ?_)
    | (refine PreD_nil ?_; refine hK _ _ ?_; clear hK K)
    | (refine WD_skip ?_)
    | (refine WD_exit ?_)
    | (refine WD_ret ?_)
    | (refine WD_true rfl ?hb ?_; (case hb => simp (disch := first | omega | (simp; done) | fail) [wrap64c, if_pos, if_neg, lwms, gb0, clms, cz0, ntqx0, csqx0, gx0, pk] <;> omega))
    | (refine WD_false rfl ?hb ?_; (case hb => simp (disch := first | omega | (simp; done) | fail) [wrap64c, if_pos, if_neg, lwms, gb0, clms, cz0, ntqx0, csqx0, gx0, pk] <;> omega))
    | (refine hK.1 _ _ ?_; clear hK K)
    | (refine hK.2.1 _ _ ?_; clear hK K)
    | (refine hK.2 _ _ _ ?hne ?_; (case hne => simp; done); clear hK K)
    | (refine hK.2.2 _ _ _ ?hne ?_; (case hne => simp; done); clear hK K))
  refine RunD_c rfl rfl rfl rfl (by simp) (by simp) ?ha (heldIntS_ok h12 _ _ (1) hir0.ints (by omega) (by omega) (by omega)) ?_
  (case ha => simp (disch := first | omega | (simp; done) | fail) [wrap64c, if_pos, if_neg, lwms, gb0, clms, cz0, ntqx0, csqx0, gx0, pk])
  have zz12 : ¬ (1 + ((walkR N X ms).length : Int) : Int) < 0 := by omega
  repeat (first
    | (refine WD_block (fun K hK => ?_))
    | (refine WD_seq (fun K hK => ?_))
    | (refine WD_region (fun K hK => ?_))
    | ((first | refine RunD_o rfl rfl rfl rfl rfl (fun X hX => ?_) | refine RunD_s rfl rfl rfl rfl (fun X hX => ?_) | (refine RunD_oT rfl rfl rfl rfl rfl rfl rfl ?hb (fun X hX => ?_); (case hb => simp (disch := first | omega | (simp; done) | fail) [wrap64c, if_pos, if_neg, lwms, gb0, clms, cz0, ntqx0, csqx0, gx0, pk, zz12] <;> omega))); (try dsimp only); simp (disch := first | omega | (simp; done) | fail) [wrap64c, if_pos, if_neg, lwms, gb0, clms, cz0, ntqx0, csqx0, gx0, pk, zz12]; refine hX _ _ ?_; clear hX X)
    | (refine RunD_oF rfl rfl rfl rfl rfl ?hb ?_; (case hb => simp (disch := first | omega | (simp; done) | fail) [wrap64c, if_pos, if_neg, lwms, gb0, clms, cz0, ntqx0, csqx0, gx0, pk, zz12] <;> omega))
    | ((first | refine RunD_oU (c := #[]) rfl rfl rfl rfl rfl ?hb ?_ | refine PreD_oU (c := #[]) rfl rfl rfl rfl rfl ?hb ?_); (case hb => simp (disch := first | omega | (simp; done) | fail) [wrap64c, if_pos, if_neg, lwms, gb0, clms, cz0, ntqx0, csqx0, gx0, pk, zz12]; rfl))
    | ((first | refine PreD_o rfl rfl rfl rfl rfl (fun X hX => ?_) | (refine PreD_oT rfl rfl rfl rfl rfl rfl rfl ?hb (fun X hX => ?_); (case hb => simp (disch := first | omega | (simp; done) | fail) [wrap64c, if_pos, if_neg, lwms, gb0, clms, cz0, ntqx0, csqx0, gx0, pk, zz12] <;> omega))); (try dsimp only); simp (disch := first | omega | (simp; done) | fail) [wrap64c, if_pos, if_neg, lwms, gb0, clms, cz0, ntqx0, csqx0, gx0, pk, zz12]; refine hX _ _ ?hadd ?_; (case hadd => simp; done); clear hX X)
    | (refine PreD_oF rfl rfl rfl rfl rfl ?hb ?_; (case hb => simp (disch := first | omega | (simp; done) | fail) [wrap64c, if_pos, if_neg, lwms, gb0, clms, cz0, ntqx0, csqx0, gx0, pk, zz12] <;> omega))
    | (refine RunD_nil ?_; refine hK _ _ ?_; clear hK K)
    | (refine RunD_nil ?_)
    | (refine PreD_nil ?_; refine hK _ _ ?_; clear hK K)
    | (refine WD_skip ?_)
    | (refine WD_exit ?_)
    | (refine WD_ret ?_)
    | (refine WD_true rfl ?hb ?_; (case hb => simp (disch := first | omega | (simp; done) | fail) [wrap64c, if_pos, if_neg, lwms, gb0, clms, cz0, ntqx0, csqx0, gx0, pk, zz12] <;> omega))
    | (refine WD_false rfl ?hb ?_; (case hb => simp (disch := first | omega | (simp; done) | fail) [wrap64c, if_pos, if_neg, lwms, gb0, clms, cz0, ntqx0, csqx0, gx0, pk, zz12] <;> omega))
    | (refine hK.1 _ _ ?_; clear hK K)
    | (refine hK.2.1 _ _ ?_; clear hK K)
    | (refine hK.2 _ _ _ ?hne ?_; (case hne => simp; done); clear hK K)
    | (refine hK.2.2 _ _ _ ?hne ?_; (case hne => simp; done); clear hK K))
  obtain ⟨tz0, h13, hcz0, haz0, hiz0⟩ := toSpace_ok h12 _ N X (hv0.keep K12) l1X
  refine RunD_c rfl rfl rfl rfl (by simp) (by simp) ?ha (hcz0) ?_
  (case ha => simp (disch := first | omega | (simp; done) | fail) [wrap64c, if_pos, if_neg, lwms, gb0, clms, cz0, ntqx0, csqx0, gx0, pk])
  have n13 := haz0.1.1
  have K13 := K12.trans haz0.1
  have gb0 : h13.get h.next = .cells [.int .i64 N, b] true true 1 := by rw [haz0.1.2 _ (by omega)]; exact gb0
  have gx0 : h13.get h4.next = .cells [.int .i64 (N), qx0] true true 1 := by rw [haz0.1.2 _ (by omega)]; exact gx0
  have his0 := his0.keep haz0.1
  have his1 := his1.keep haz0.1
  have huw0 := huw0.keep haz0.1
  have hir0 := hir0.keep haz0.1
  repeat (first
    | (refine WD_block (fun K hK => ?_))
    | (refine WD_seq (fun K hK => ?_))
    | (refine WD_region (fun K hK => ?_))
    | ((first | refine RunD_o rfl rfl rfl rfl rfl (fun X hX => ?_) | refine RunD_s rfl rfl rfl rfl (fun X hX => ?_) | (refine RunD_oT rfl rfl rfl rfl rfl rfl rfl ?hb (fun X hX => ?_); (case hb => simp (disch := first | omega | (simp; done) | fail) [wrap64c, if_pos, if_neg, lwms, gb0, clms, cz0, ntqx0, csqx0, gx0, pk] <;> omega))); (try dsimp only); simp (disch := first | omega | (simp; done) | fail) [wrap64c, if_pos, if_neg, lwms, gb0, clms, cz0, ntqx0, csqx0, gx0, pk]; refine hX _ _ ?_; clear hX X)
    | (refine RunD_oF rfl rfl rfl rfl rfl ?hb ?_; (case hb => simp (disch := first | omega | (simp; done) | fail) [wrap64c, if_pos, if_neg, lwms, gb0, clms, cz0, ntqx0, csqx0, gx0, pk] <;> omega))
    | ((first | refine RunD_oU (c := #[]) rfl rfl rfl rfl rfl ?hb ?_ | refine PreD_oU (c := #[]) rfl rfl rfl rfl rfl ?hb ?_); (case hb => simp (disch := first | omega | (simp; done) | fail) [wrap64c, if_pos, if_neg, lwms, gb0, clms, cz0, ntqx0, csqx0, gx0, pk]; rfl))
    | ((first | refine PreD_o rfl rfl rfl rfl rfl (fun X hX => ?_) | (refine PreD_oT rfl rfl rfl rfl rfl rfl rfl ?hb (fun X hX => ?_); (case hb => simp (disch := first | omega | (simp; done) | fail) [wrap64c, if_pos, if_neg, lwms, gb0, clms, cz0, ntqx0, csqx0, gx0, pk] <;> omega))); (try dsimp only); simp (disch := first | omega | (simp; done) | fail) [wrap64c, if_pos, if_neg, lwms, gb0, clms, cz0, ntqx0, csqx0, gx0, pk]; refine hX _ _ ?hadd ?_; (case hadd => simp; done); clear hX X)
    | (refine PreD_oF rfl rfl rfl rfl rfl ?hb ?_; (case hb => simp (disch := first | omega | (simp; done) | fail) [wrap64c, if_pos, if_neg, lwms, gb0, clms, cz0, ntqx0, csqx0, gx0, pk] <;> omega))
    | (refine RunD_nil ?_; refine hK _ _ ?_; clear hK K)
    | (refine RunD_nil ?_)
    | (refine PreD_nil ?_; refine hK _ _ ?_; clear hK K)
    | (refine WD_skip ?_)
    | (refine WD_exit ?_)
    | (refine WD_ret ?_)
    | (refine WD_true rfl ?hb ?_; (case hb => simp (disch := first | omega | (simp; done) | fail) [wrap64c, if_pos, if_neg, lwms, gb0, clms, cz0, ntqx0, csqx0, gx0, pk] <;> omega))
    | (refine WD_false rfl ?hb ?_; (case hb => simp (disch := first | omega | (simp; done) | fail) [wrap64c, if_pos, if_neg, lwms, gb0, clms, cz0, ntqx0, csqx0, gx0, pk] <;> omega))
    | (refine hK.1 _ _ ?_; clear hK K)
    | (refine hK.2.1 _ _ ?_; clear hK K)
    | (refine hK.2 _ _ _ ?hne ?_; (case hne => simp; done); clear hK K)
    | (refine hK.2.2 _ _ _ ?hne ?_; (case hne => simp; done); clear hK K))
  obtain ⟨tz1, h14, hcz1, haz1, hiz1⟩ := toIntS_ok h13 w ms (hw0.keep K13) l1ms
  refine RunD_c rfl rfl rfl rfl (by simp) (by simp) ?ha (hcz1) ?_
  (case ha => simp (disch := first | omega | (simp; done) | fail) [wrap64c, if_pos, if_neg, lwms, gb0, clms, cz0, ntqx0, csqx0, gx0, pk])
  have n14 := haz1.1.1
  have K14 := K13.trans haz1.1
  have gb0 : h14.get h.next = .cells [.int .i64 N, b] true true 1 := by rw [haz1.1.2 _ (by omega)]; exact gb0
  have gx0 : h14.get h4.next = .cells [.int .i64 (N), qx0] true true 1 := by rw [haz1.1.2 _ (by omega)]; exact gx0
  have his0 := his0.keep haz1.1
  have his1 := his1.keep haz1.1
  have huw0 := huw0.keep haz1.1
  have hir0 := hir0.keep haz1.1
  have hiz0 := hiz0.keep haz1.1
  repeat (first
    | (refine WD_block (fun K hK => ?_))
    | (refine WD_seq (fun K hK => ?_))
    | (refine WD_region (fun K hK => ?_))
    | ((first | refine RunD_o rfl rfl rfl rfl rfl (fun X hX => ?_) | refine RunD_s rfl rfl rfl rfl (fun X hX => ?_) | (refine RunD_oT rfl rfl rfl rfl rfl rfl rfl ?hb (fun X hX => ?_); (case hb => simp (disch := first | omega | (simp; done) | fail) [wrap64c, if_pos, if_neg, lwms, gb0, clms, cz0, ntqx0, csqx0, gx0, pk] <;> omega))); (try dsimp only); simp (disch := first | omega | (simp; done) | fail) [wrap64c, if_pos, if_neg, lwms, gb0, clms, cz0, ntqx0, csqx0, gx0, pk]; refine hX _ _ ?_; clear hX X)
    | (refine RunD_oF rfl rfl rfl rfl rfl ?hb ?_; (case hb => simp (disch := first | omega | (simp; done) | fail) [wrap64c, if_pos, if_neg, lwms, gb0, clms, cz0, ntqx0, csqx0, gx0, pk] <;> omega))
    | ((first | refine RunD_oU (c := #[]) rfl rfl rfl rfl rfl ?hb ?_ | refine PreD_oU (c := #[]) rfl rfl rfl rfl rfl ?hb ?_); (case hb => simp (disch := first | omega | (simp; done) | fail) [wrap64c, if_pos, if_neg, lwms, gb0, clms, cz0, ntqx0, csqx0, gx0, pk]; rfl))
    | ((first | refine PreD_o rfl rfl rfl rfl rfl (fun X hX => ?_) | (refine PreD_oT rfl rfl rfl rfl rfl rfl rfl ?hb (fun X hX => ?_); (case hb => simp (disch := first | omega | (simp; done) | fail) [wrap64c, if_pos, if_neg, lwms, gb0, clms, cz0, ntqx0, csqx0, gx0, pk] <;> omega))); (try dsimp only); simp (disch := first | omega | (simp; done) | fail) [wrap64c, if_pos, if_neg, lwms, gb0, clms, cz0, ntqx0, csqx0, gx0, pk]; refine hX _ _ ?hadd ?_; (case hadd => simp; done); clear hX X)
    | (refine PreD_oF rfl rfl rfl rfl rfl ?hb ?_; (case hb => simp (disch := first | omega | (simp; done) | fail) [wrap64c, if_pos, if_neg, lwms, gb0, clms, cz0, ntqx0, csqx0, gx0, pk] <;> omega))
    | (refine RunD_nil ?_; refine hK _ _ ?_; clear hK K)
    | (refine RunD_nil ?_)
    | (refine PreD_nil ?_; refine hK _ _ ?_; clear hK K)
    | (refine WD_skip ?_)
    | (refine WD_exit ?_)
    | (refine WD_ret ?_)
    | (refine WD_true rfl ?hb ?_; (case hb => simp (disch := first | omega | (simp; done) | fail) [wrap64c, if_pos, if_neg, lwms, gb0, clms, cz0, ntqx0, csqx0, gx0, pk] <;> omega))
    | (refine WD_false rfl ?hb ?_; (case hb => simp (disch := first | omega | (simp; done) | fail) [wrap64c, if_pos, if_neg, lwms, gb0, clms, cz0, ntqx0, csqx0, gx0, pk] <;> omega))
    | (refine hK.1 _ _ ?_; clear hK K)
    | (refine hK.2.1 _ _ ?_; clear hK K)
    | (refine hK.2 _ _ _ ?hne ?_; (case hne => simp; done); clear hK K)
    | (refine hK.2.2 _ _ _ ?hne ?_; (case hne => simp; done); clear hK K))
  obtain ⟨_, h15, hcq, haq, uq0, rfl, huq0⟩ := implWalk_ok h14 _ _ N X ms hiz0.space hiz1.ints l1X l1ms
  refine RunD_c rfl rfl rfl rfl (by simp) (by simp) ?ha (hcq) ?_
  (case ha => simp (disch := first | omega | (simp; done) | fail) [wrap64c, if_pos, if_neg, lwms, gb0, clms, cz0, ntqx0, csqx0, gx0, pk])
  have n15 := haq.1.1
  have K15 := K14.trans haq.1
  have gb0 : h15.get h.next = .cells [.int .i64 N, b] true true 1 := by rw [haq.1.2 _ (by omega)]; exact gb0
  have gx0 : h15.get h4.next = .cells [.int .i64 (N), qx0] true true 1 := by rw [haq.1.2 _ (by omega)]; exact gx0
  have his0 := his0.keep haq.1
  have his1 := his1.keep haq.1
  have huw0 := huw0.keep haq.1
  have hir0 := hir0.keep haq.1
  have hiz0 := hiz0.keep haq.1
  have hiz1 := hiz1.keep haq.1
  repeat (first
    | (refine WD_block (fun K hK => ?_))
    | (refine WD_seq (fun K hK => ?_))
    | (refine WD_region (fun K hK => ?_))
    | ((first | refine RunD_o rfl rfl rfl rfl rfl (fun X hX => ?_) | refine RunD_s rfl rfl rfl rfl (fun X hX => ?_) | (refine RunD_oT rfl rfl rfl rfl rfl rfl rfl ?hb (fun X hX => ?_); (case hb => simp (disch := first | omega | (simp; done) | fail) [wrap64c, if_pos, if_neg, lwms, gb0, clms, cz0, ntqx0, csqx0, gx0, pk] <;> omega))); (try dsimp only); simp (disch := first | omega | (simp; done) | fail) [wrap64c, if_pos, if_neg, lwms, gb0, clms, cz0, ntqx0, csqx0, gx0, pk]; refine hX _ _ ?_; clear hX X)
    | (refine RunD_oF rfl rfl rfl rfl rfl ?hb ?_; (case hb => simp (disch := first | omega | (simp; done) | fail) [wrap64c, if_pos, if_neg, lwms, gb0, clms, cz0, ntqx0, csqx0, gx0, pk] <;> omega))
    | ((first | refine RunD_oU (c := #[]) rfl rfl rfl rfl rfl ?hb ?_ | refine PreD_oU (c := #[]) rfl rfl rfl rfl rfl ?hb ?_); (case hb => simp (disch := first | omega | (simp; done) | fail) [wrap64c, if_pos, if_neg, lwms, gb0, clms, cz0, ntqx0, csqx0, gx0, pk]; rfl))
    | ((first | refine PreD_o rfl rfl rfl rfl rfl (fun X hX => ?_) | (refine PreD_oT rfl rfl rfl rfl rfl rfl rfl ?hb (fun X hX => ?_); (case hb => simp (disch := first | omega | (simp; done) | fail) [wrap64c, if_pos, if_neg, lwms, gb0, clms, cz0, ntqx0, csqx0, gx0, pk] <;> omega))); (try dsimp only); simp (disch := first | omega | (simp; done) | fail) [wrap64c, if_pos, if_neg, lwms, gb0, clms, cz0, ntqx0, csqx0, gx0, pk]; refine hX _ _ ?hadd ?_; (case hadd => simp; done); clear hX X)
    | (refine PreD_oF rfl rfl rfl rfl rfl ?hb ?_; (case hb => simp (disch := first | omega | (simp; done) | fail) [wrap64c, if_pos, if_neg, lwms, gb0, clms, cz0, ntqx0, csqx0, gx0, pk] <;> omega))
    | (refine RunD_nil ?_; refine hK _ _ ?_; clear hK K)
    | (refine RunD_nil ?_)
    | (refine PreD_nil ?_; refine hK _ _ ?_; clear hK K)
    | (refine WD_skip ?_)
    | (refine WD_exit ?_)
    | (refine WD_ret ?_)
    | (refine WD_true rfl ?hb ?_; (case hb => simp (disch := first | omega | (simp; done) | fail) [wrap64c, if_pos, if_neg, lwms, gb0, clms, cz0, ntqx0, csqx0, gx0, pk] <;> omega))
    | (refine WD_false rfl ?hb ?_; (case hb => simp (disch := first | omega | (simp; done) | fail) [wrap64c, if_pos, if_neg, lwms, gb0, clms, cz0, ntqx0, csqx0, gx0, pk] <;> omega))
    | (refine hK.1 _ _ ?_; clear hK K)
    | (refine hK.2.1 _ _ ?_; clear hK K)
    | (refine hK.2 _ _ _ ?hne ?_; (case hne => simp; done); clear hK K)
    | (refine hK.2.2 _ _ _ ?hne ?_; (case hne => simp; done); clear hK K))
  refine RunD_c rfl rfl rfl rfl (by simp) (by simp) ?ha (eqIntS_ok h15 _ _ _ _ (huq0.ints) (huw0.ints)) ?_
  (case ha => simp (disch := first | omega | (simp; done) | fail) [wrap64c, if_pos, if_neg, lwms, gb0, clms, cz0, ntqx0, csqx0, gx0, pk])
  repeat (first
    | (refine WD_block (fun K hK => ?_))
    | (refine WD_seq (fun K hK => ?_))
    | (refine WD_region (fun K hK => ?_))
    | ((first | refine RunD_o rfl rfl rfl rfl rfl (fun X hX => ?_) | refine RunD_s rfl rfl rfl rfl (fun X hX => ?_) | (refine RunD_oT rfl rfl rfl rfl rfl rfl rfl ?hb (fun X hX => ?_); (case hb => simp (disch := first | omega | (simp; done) | fail) [wrap64c, if_pos, if_neg, lwms, gb0, clms, cz0, ntqx0, csqx0, gx0, pk] <;> omega))); (try dsimp only); simp (disch := first | omega | (simp; done) | fail) [wrap64c, if_pos, if_neg, lwms, gb0, clms, cz0, ntqx0, csqx0, gx0, pk]; refine hX _ _ ?_; clear hX X)
    | (refine RunD_oF rfl rfl rfl rfl rfl ?hb ?_; (case hb => simp (disch := first | omega | (simp; done) | fail) [wrap64c, if_pos, if_neg, lwms, gb0, clms, cz0, ntqx0, csqx0, gx0, pk] <;> omega))
    | ((first | refine RunD_oU (c := #[]) rfl rfl rfl rfl rfl ?hb ?_ | refine PreD_oU (c := #[]) rfl rfl rfl rfl rfl ?hb ?_); (case hb => simp (disch := first | omega | (simp; done) | fail) [wrap64c, if_pos, if_neg, lwms, gb0, clms, cz0, ntqx0, csqx0, gx0, pk]; rfl))
    | ((first | refine PreD_o rfl rfl rfl rfl rfl (fun X hX => ?_) | (refine PreD_oT rfl rfl rfl rfl rfl rfl rfl ?hb (fun X hX => ?_); (case hb => simp (disch := first | omega | (simp; done) | fail) [wrap64c, if_pos, if_neg, lwms, gb0, clms, cz0, ntqx0, csqx0, gx0, pk] <;> omega))); (try dsimp only); simp (disch := first | omega | (simp; done) | fail) [wrap64c, if_pos, if_neg, lwms, gb0, clms, cz0, ntqx0, csqx0, gx0, pk]; refine hX _ _ ?hadd ?_; (case hadd => simp; done); clear hX X)
    | (refine PreD_oF rfl rfl rfl rfl rfl ?hb ?_; (case hb => simp (disch := first | omega | (simp; done) | fail) [wrap64c, if_pos, if_neg, lwms, gb0, clms, cz0, ntqx0, csqx0, gx0, pk] <;> omega))
    | (refine RunD_nil ?_; refine hK _ _ ?_; clear hK K)
    | (refine RunD_nil ?_)
    | (refine PreD_nil ?_; refine hK _ _ ?_; clear hK K)
    | (refine WD_skip ?_)
    | (refine WD_exit ?_)
    | (refine WD_ret ?_)
    | (refine WD_true rfl ?hb ?_; (case hb => simp (disch := first | omega | (simp; done) | fail) [wrap64c, if_pos, if_neg, lwms, gb0, clms, cz0, ntqx0, csqx0, gx0, pk] <;> omega))
    | (refine WD_false rfl ?hb ?_; (case hb => simp (disch := first | omega | (simp; done) | fail) [wrap64c, if_pos, if_neg, lwms, gb0, clms, cz0, ntqx0, csqx0, gx0, pk] <;> omega))
    | (refine hK.1 _ _ ?_; clear hK K)
    | (refine hK.2.1 _ _ ?_; clear hK K)
    | (refine hK.2 _ _ _ ?hne ?_; (case hne => simp; done); clear hK K)
    | (refine hK.2.2 _ _ _ ?hne ?_; (case hne => simp; done); clear hK K))
  refine RunD_c rfl rfl rfl rfl (by simp) (by simp) ?ha (heldIntS_ok h15 _ _ (1) hir0.ints (by omega) (by omega) (by omega)) ?_
  (case ha => simp (disch := first | omega | (simp; done) | fail) [wrap64c, if_pos, if_neg, lwms, gb0, clms, cz0, ntqx0, csqx0, gx0, pk])
  have zz15 : ¬ (1 + ((walkR N X ms).length : Int) : Int) < 0 := by omega
  repeat (first
    | (refine WD_block (fun K hK => ?_))
    | (refine WD_seq (fun K hK => ?_))
    | (refine WD_region (fun K hK => ?_))
    | ((first | refine RunD_o rfl rfl rfl rfl rfl (fun X hX => ?_) | refine RunD_s rfl rfl rfl rfl (fun X hX => ?_) | (refine RunD_oT rfl rfl rfl rfl rfl rfl rfl ?hb (fun X hX => ?_); (case hb => simp (disch := first | omega | (simp; done) | fail) [wrap64c, if_pos, if_neg, lwms, gb0, clms, cz0, ntqx0, csqx0, gx0, pk, zz15] <;> omega))); (try dsimp only); simp (disch := first | omega | (simp; done) | fail) [wrap64c, if_pos, if_neg, lwms, gb0, clms, cz0, ntqx0, csqx0, gx0, pk, zz15]; refine hX _ _ ?_; clear hX X)
    | (refine RunD_oF rfl rfl rfl rfl rfl ?hb ?_; (case hb => simp (disch := first | omega | (simp; done) | fail) [wrap64c, if_pos, if_neg, lwms, gb0, clms, cz0, ntqx0, csqx0, gx0, pk, zz15] <;> omega))
    | ((first | refine RunD_oU (c := #[]) rfl rfl rfl rfl rfl ?hb ?_ | refine PreD_oU (c := #[]) rfl rfl rfl rfl rfl ?hb ?_); (case hb => simp (disch := first | omega | (simp; done) | fail) [wrap64c, if_pos, if_neg, lwms, gb0, clms, cz0, ntqx0, csqx0, gx0, pk, zz15]; rfl))
    | ((first | refine PreD_o rfl rfl rfl rfl rfl (fun X hX => ?_) | (refine PreD_oT rfl rfl rfl rfl rfl rfl rfl ?hb (fun X hX => ?_); (case hb => simp (disch := first | omega | (simp; done) | fail) [wrap64c, if_pos, if_neg, lwms, gb0, clms, cz0, ntqx0, csqx0, gx0, pk, zz15] <;> omega))); (try dsimp only); simp (disch := first | omega | (simp; done) | fail) [wrap64c, if_pos, if_neg, lwms, gb0, clms, cz0, ntqx0, csqx0, gx0, pk, zz15]; refine hX _ _ ?hadd ?_; (case hadd => simp; done); clear hX X)
    | (refine PreD_oF rfl rfl rfl rfl rfl ?hb ?_; (case hb => simp (disch := first | omega | (simp; done) | fail) [wrap64c, if_pos, if_neg, lwms, gb0, clms, cz0, ntqx0, csqx0, gx0, pk, zz15] <;> omega))
    | (refine RunD_nil ?_; refine hK _ _ ?_; clear hK K)
    | (refine RunD_nil ?_)
    | (refine PreD_nil ?_; refine hK _ _ ?_; clear hK K)
    | (refine WD_skip ?_)
    | (refine WD_exit ?_)
    | (refine WD_ret ?_)
    | (refine WD_true rfl ?hb ?_; (case hb => simp (disch := first | omega | (simp; done) | fail) [wrap64c, if_pos, if_neg, lwms, gb0, clms, cz0, ntqx0, csqx0, gx0, pk, zz15] <;> omega))
    | (refine WD_false rfl ?hb ?_; (case hb => simp (disch := first | omega | (simp; done) | fail) [wrap64c, if_pos, if_neg, lwms, gb0, clms, cz0, ntqx0, csqx0, gx0, pk, zz15] <;> omega))
    | (refine hK.1 _ _ ?_; clear hK K)
    | (refine hK.2.1 _ _ ?_; clear hK K)
    | (refine hK.2 _ _ _ ?hne ?_; (case hne => simp; done); clear hK K)
    | (refine hK.2.2 _ _ _ ?hne ?_; (case hne => simp; done); clear hK K))
  exact done_ret rfl (by simp [K15])
end Go.Proofs.Ytpehnhjgdgnnkaa
